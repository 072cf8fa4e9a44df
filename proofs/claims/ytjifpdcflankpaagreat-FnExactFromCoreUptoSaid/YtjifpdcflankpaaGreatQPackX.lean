/-
 THE GROUND OF DATA, in one text. Conditions: none.
-/
import Derived.Test.YtjifpdcflankpaaGreatQPackN
import Derived.Test.YtjifpdcflankpaaGreatQPackC
import Derived.Test.YtjifpdcflankpaaGreatQIrC
import Derived.Test.YtjifpdcflankpaaGreatQPackW
import Derived.Test.YtjifpdcflankpaaGreatQPackR
import Derived.Test.YtjifpdcflankpaaGreatQPackP
import Derived.Test.YtjifpdcflankpaaGreatQPackT

set_option linter.unusedVariables false
set_option linter.unusedSimpArgs false
set_option maxRecDepth 100000
namespace Go.Proofs.YtjifpdcflankpaaGreat
open Go.RowKit Go.Proofs.YtjifpdcflankpaaGreat.Av Go.Proofs.YtjifpdcflankpaaGreat.Ml
open Go.Proofs.YtjifpdcflankpaaGreat.Av.AVal (av)

theorem l15Name_ok (i : Int) (hi : -9223372036854775808 ≤ i ∧ i ≤ 9223372036854775807) : CallsF Tryz.prog 140 [.int .i64 i] (.str (dnN i)) := by
 refine ir_spec_l15Name.F rfl (by simp; exact pint _) (AvPure.str _) ?_
 have hs := numS_le i
 simp +contextual -dsimp (maxSteps := 2000000) only [↓SD, SU, SB, simprocAttr, ir_spec_l15Name]
 refine aCallK_of _ (specNumText_ok i hi) ?_
 simp +contextual -dsimp (maxSteps := 2000000) only [↓SD, SU, SB, simprocAttr, dnN]
 have h1 : (bs [118]).size = 1 := rfl
 unfold maxLen; omega
def someL (d m : Nat) : List ByteArray := (List.range m).map fun k => dnN ((d + k : Nat) : Int)
theorem l15Some_ok (d m : Nat) (hd : d ≤ 4611686018427387903) (hm : m ≤ 1099511627776) : CallsF Tryz.prog 141 [.int .i64 (d : Int), .int .i64 (m : Int)] (.sl ((someL d m).map av)) := by
 refine ir_spec_l15Some.F rfl (by simp; exact ⟨pint _, pint _⟩) (lav_clean (someL d m)) ?_
 simp +contextual -dsimp (maxSteps := 2000000) only [↓SD, SU, SB, simprocAttr, ir_spec_l15Some]
 intro v
 refine aLoop_of (X := Nat × Nat) (fun x => ⟨[(0, .int .i64 d), (1, .int .i64 m), (5, .row 7 x.2 x.1), (6, .int .i64 x.1)], [(7, ⟨x.2, false, 9, 1, (someL d x.1).map av⟩)]⟩) (fun x => x.1 ≤ m) (fun x => m - x.1) (0, v) (Nat.zero_le _) (by simp +contextual -dsimp only [↓SD, SU, SB, simprocAttr]) (by simp +contextual -dsimp only [↓SD, SU, SB, simprocAttr, someL, List.range_zero, List.map_nil]) ?_
 rintro ⟨k, u⟩ hk
 dsimp only at hk ⊢
 have hl : ((someL d k).map (av : ByteArray → AV)).length = k := by simp [someL]
 have ht : List.take k ((someL d k).map (av : ByteArray → AV)) = (someL d k).map av := List.take_of_length_le (by omega)
 by_cases hlt : k < m
 ·have C := l15Name_ok ((d + k : Nat) : Int) (by omega)
  have e : (d : Int) + (k : Int) = ((d + k : Nat) : Int) := by omega
  have hs : someL d (k + 1) = someL d k ++ [dnN ((d + k : Nat) : Int)] := by unfold someL; rw [List.range_succ, List.map_append]; rfl
  simp +contextual -dsimp (maxSteps := 2000000) only [↓SD, SU, SB, simprocAttr, hlt, e]
  refine ⟨by omega, ?_⟩
  refine aCallK_of _ C ?_
  simp +contextual -dsimp (maxSteps := 2000000) only [↓SD, SU, SB, simprocAttr, hl, ht]
  exact ⟨⟨by omega, by unfold maxLen; omega⟩, fun u' => ⟨by omega, Goes.le ⟨(k + 1, u'), ⟨hlt, (by first | omega | (simp only; omega))⟩, rfl⟩ (by simp +contextual -dsimp only [↓SD, SU, SB, simprocAttr, Int.natCast_add]) (by simp +contextual -dsimp only [↓SD, SU, SB, simprocAttr, hs, List.map_append, av_str])⟩⟩
 ·obtain rfl : k = m := by omega
  have hm2 : ∀ hp, ((someL d k).map (av : ByteArray → AV)).map (AV.pur hp) = (someL d k).map av := fun hp => map_nop _ hp
  simp +contextual -dsimp (maxSteps := 2000000) only [↓SD, SU, SB, simprocAttr, Nat.lt_irrefl, hl, ht, hm2]
theorem someL_get (d m c : Nat) (h : c < m) (z : AV) : ((someL d m).map (av : ByteArray → AV)).getD c z = .str (dnN ((d + c : Nat) : Int)) := by
 rw [List.getD_eq_getElem?_getD]
 simp [someL, h, av_str]
theorem l15PatN_gen (l : List PNode) (f : Nat → ByteArray) (SS : List AV) (hSp : AvPure (.sl SS)) (hSl : SS.length = l.length) (hSg : ∀ c, c < l.length → SS.getD c .top = .str (f c)) (hSm : ∀ hp, SS.map (AV.pur hp) = SS) (hx : Bulk.bulk l ≤ 4294967296) : CallsF Tryz.prog 53 [.agg [.sl (l.map av)], .sl SS] (.tup [.agg [.sl ((renK f 0 l).map av)], .sl ((varsOf l).map av)]) := by
 refine ir_spec_l15Pat.F rfl (by simp; exact ⟨AvPure.agg (by simp; exact lav_clean l), hSp⟩) (AvPure.tup (fun x hx => by
  rcases List.mem_cons.1 hx with rfl | hx
  ·exact AvPure.agg (fun y hy => by rw [List.mem_singleton.1 hy]; exact lav_clean (renK f 0 l))
  ·rw [List.mem_singleton.1 hx]; exact lav_clean (varsOf l))) ?_
 have hl := bulk_length l
 simp +contextual -dsimp (maxSteps := 2000000) only [↓SD, SU, SB, simprocAttr, ir_spec_l15Pat, map_len]
 intro u4 u6 u11
 refine aLoop_goes (X := LpS) (fun x => ⟨[(1, .sl SS), (4, .ptr 4 u4 0 0), (6, .ptr 6 u6 0 0), (7, .row 11 x.a (varsOf (l.take x.j)).length), (13, .sl (l.map av)), (14, .int .i64 l.length), (15, .int .i64 x.j)], [(4, ⟨u4, false, 89, 1, [.agg [.nils]]⟩), (6, ⟨u6, false, 89, 1, [.agg [.row 49 x.b x.j]]⟩), (49, ⟨x.b, false, 94, 4, ((renK f 0 l).take x.j).map av⟩), (11, ⟨x.a, false, 9, 1, (varsOf (l.take x.j)).map av⟩)]⟩) (fun x => x.j ≤ l.length) (fun x => l.length - x.j) ?_ ?_
 ·refine Goes.adoptB 6 0 0 49 94 4 rfl rfl Nat.zero_lt_one rfl (by decide) fun b => ?_
  exact Goes.le ⟨⟨0, u11, b⟩, Nat.zero_le _, rfl⟩ (by simp +contextual -dsimp only [↓SD, SU, SB, simprocAttr, List.take_zero, varsOf, List.filterMap_nil]) (by simp +contextual -dsimp only [↓SD, SU, SB, simprocAttr, List.take_zero, varsOf, List.filterMap_nil, List.map_nil])
 rintro ⟨j, a, b⟩ hj
 dsimp only at hj ⊢
 by_cases hlt : j < l.length
 ·have e1 := getD_map av l j .top hlt
  have vs := vars_step hlt
  have hjk : j < (renK f 0 l).length := by rw [renK_len]; exact hlt
  have hg := renK_get f l 0 j hlt
  rw [List.getElem?_eq_getElem hjk] at hg
  have hg2 := Option.some.inj hg
  have ht : (renK f 0 l).take (j + 1) = (renK f 0 l).take j ++ [newP f l j l[j]] := by
   rw [List.take_succ_eq_append_getElem hjk, hg2, newP, Nat.zero_add]
  have hRl : (((renK f 0 l).take j).map (av : PNode → AV)).length = j := by rw [List.length_map, List.length_take]; omega
  have hRt : List.take j (((renK f 0 l).take j).map (av : PNode → AV)) = ((renK f 0 l).take j).map av := List.take_of_length_le (by omega)
  have hk1 := (pnode_small hx j hlt).1
  have hvl := vars_take_le l j
  unfold newP at ht
  have hgc := hSg (varsOf (l.take j)).length (by omega)
  clear hg hg2 hjk
  generalize l[j] = n at *
  generalize (renK f 0 l).take j = RR at *
  generalize varsOf (l.take j) = V at *
  have hVl : (V.map (av : ByteArray → AV)).length = V.length := List.length_map _
  have hVt : List.take V.length (V.map (av : ByteArray → AV)) = V.map av := List.take_of_length_le (by omega)
  have hkc : ∀ x ∈ n.kids.map (av : Int → AV), x.cells.length = 1 := fun x hx => by obtain ⟨y, _, rfl⟩ := List.mem_map.1 hx; rfl
  have hkm : ∀ hp, (n.kids.map (av : Int → AV)).map (AV.pur hp) = n.kids.map av := fun hp => map_nop _ hp
  have hkt : List.take n.kids.length (n.kids.map (av : Int → AV)) = n.kids.map av := List.take_of_length_le (by simp)
  have hle : (((V.length + 1 : Nat) : Int) ≤ (l.length : Int)) := by omega
  have hci : ((V.length + 1 : Nat) : Int) - 1 = (V.length : Int) := by omega
  have hVlt : V.length < l.length := by omega
  by_cases h2 : n.kind = 2
  ·rw [if_pos h2] at ht
   have ha : av ({ n with s := f V.length } : PNode) = .agg [.int .i64 2, .int .i64 n.n, .str (f V.length), .sl (n.kids.map av)] := by rw [av_PNode, ← h2]
   rw [if_pos h2] at vs
   simp +contextual -dsimp (maxSteps := 2000000) only [↓SD, SU, SB, simprocAttr, hlt, e1, map_len, av_PNode, h2, hRl, hRt, hVl, hVt, hkm, hkt, hle, hSl, hSm, hci, hgc, hVlt]
   intro u9 v19
   refine ⟨⟨hkc, by omega, by unfold maxLen; omega⟩, fun w => ⟨⟨by omega, by unfold maxLen; omega⟩, fun a' => ?_⟩⟩
   exact ⟨by omega, ⟨by omega, by unfold maxLen; omega⟩, fun b' => ⟨by omega, Goes.le ⟨⟨j + 1, a', b'⟩, ⟨hlt, (by first | omega | (simp only; omega))⟩, rfl⟩ (by simp +contextual -dsimp only [↓SD, SU, SB, simprocAttr, Int.natCast_add, vs, List.length_append, List.length_cons, List.length_nil]) (by simp +contextual -dsimp only [↓SD, SU, SB, simprocAttr, vs, ht, ha, List.map_append, av_PNode, av_str, h2])⟩⟩
  ·rw [if_neg h2] at ht
   rw [if_neg h2, List.append_nil] at vs
   simp +contextual -dsimp (maxSteps := 2000000) only [↓SD, SU, SB, simprocAttr, hlt, e1, map_len, av_PNode, h2, hRl, hRt, hVl, hVt, hkm, hkt, hle, hSl, hSm]
   intro u9 v19
   refine ⟨⟨hkc, by omega, by unfold maxLen; omega⟩, fun w => ?_⟩
   exact ⟨⟨by omega, by unfold maxLen; omega⟩, fun b' => ⟨by omega, Goes.le ⟨⟨j + 1, a, b'⟩, ⟨hlt, (by first | omega | (simp only; omega))⟩, rfl⟩ (by simp +contextual -dsimp only [↓SD, SU, SB, simprocAttr, Int.natCast_add, vs]) (by simp +contextual -dsimp only [↓SD, SU, SB, simprocAttr, vs, ht, List.map_append, av_PNode])⟩⟩
 ·obtain rfl : j = l.length := by omega
  rw [List.take_length, List.take_of_length_le (by rw [renK_len]; exact Nat.le_refl _)]
  have hRl : ((renK f 0 l).map (av : PNode → AV)).length = l.length := by rw [List.length_map, renK_len]
  have hRt : List.take l.length ((renK f 0 l).map (av : PNode → AV)) = (renK f 0 l).map av := List.take_of_length_le (by omega)
  have hRm : ∀ hp, ((renK f 0 l).map (av : PNode → AV)).map (AV.pur hp) = (renK f 0 l).map av := fun hp => map_nop _ hp
  have hVl : ((varsOf l).map (av : ByteArray → AV)).length = (varsOf l).length := List.length_map _
  have hVt : List.take (varsOf l).length ((varsOf l).map (av : ByteArray → AV)) = (varsOf l).map av := List.take_of_length_le (by omega)
  have hVm : ∀ hp, ((varsOf l).map (av : ByteArray → AV)).map (AV.pur hp) = (varsOf l).map av := fun hp => map_nop _ hp
  simp +contextual -dsimp (maxSteps := 2000000) only [↓SD, SU, SB, simprocAttr, Nat.lt_irrefl, hRl, hRt, hRm, hVl, hVt, hVm]
theorem l15PatN_ok (l : List PNode) (d : Nat) (hx : Bulk.bulk l ≤ 4294967296) : CallsF Tryz.prog 53 [.agg [.sl (l.map av)], .sl ((someL d l.length).map av)] (.tup [.agg [.sl ((renK (fun k => dnN ((d + k : Nat) : Int)) 0 l).map av)], .sl ((varsOf l).map av)]) :=
 l15PatN_gen l (fun k => dnN ((d + k : Nat) : Int)) _ (lav_clean (someL d l.length)) (by simp [someL]) (fun c h => someL_get d l.length c h .top) (fun hp => map_nop _ hp) hx
def moreQ (q : Pat) : Int := ((varsOf q.nodes).length : Nat)
def nodeM (n : Node) (m : Nat) : Prop := (n.kind = 13 → m = n.pats.length + 1) ∧ (n.kind = 3 → n.s = bs [] → 0 ≤ n.n ∧ n.n ≤ 360000) ∧ Bulk.bulk n ≤ 4294967296
mutual
def Tr.okM : Tr → Prop
 | .mk n ks => nodeM n ks.length ∧ Tr.okMs ks
def Tr.okMs : List Tr → Prop
 | [] => True
 | t :: ts => t.okM ∧ Tr.okMs ts
end
theorem okMs_mem : ∀ {ks : List Tr} {k : Tr}, Tr.okMs ks → k ∈ ks → k.okM
 | [], k, _, hk => by cases hk
 | t :: ts, k, h, hk => by
  rw [Tr.okMs] at h
  rcases List.mem_cons.1 hk with rfl | hk
  ·exact h.1
  ·exact okMs_mem h.2 hk
theorem under_wt (n : Node) (i d : Nat) : underN n i d ≤ d + (1 + (n.pats.map fun q => (varsOf q.nodes).length).sum) := by
 unfold underN
 split
 ·by_cases h : i - 1 < n.pats.length
  ·have e : n.pats.getD (i - 1) ⟨[]⟩ = n.pats[i - 1] := by simp [h]
   have := vars_sum (List.getElem_mem h)
   rw [e]; omega
  ·have e : n.pats.getD (i - 1) ⟨[]⟩ = ⟨[]⟩ := by simp [h]
   have e2 : (varsOf ([] : List PNode)).length = 0 := rfl
   rw [e]; dsimp only; omega
 ·split <;> omega
set_option maxHeartbeats 4000000 in
theorem l15Named_ok : ∀ (t : Tr), t.okM → ∀ (d : Nat), d + t.wt ≤ 4100000000 → CallsF Tryz.prog 82 [av (Sub.mk t), .int .i64 d] (av (Sub.mk (namedR t d))) := by
 refine Tr.ind fun n ks ih hok d hb => ?_
 refine ir_spec_l15Named.F rfl (by simp; exact ⟨AVal.clean _, pint _⟩) (AVal.clean _) ?_
 rw [Tr.okM] at hok
 obtain ⟨⟨ht13, ht3, hbn⟩, hoks⟩ := hok
 have hbp : Bulk.bulk n.pats ≤ Bulk.bulk n := by simp only [Bulk.bulk]; omega
 have hpl := bulk_length n.pats
 have hwl := wts_len ks
 have hb2 := hb
 rw [Tr.wt] at hb2
 rw [namedR]
 obtain ⟨A, hA⟩ : ∃ A : Int, A = (nameD n d).n := ⟨_, rfl⟩
 obtain ⟨B, hB⟩ : ∃ B, B = (nameD n d).s := ⟨_, rfl⟩
 have hN0 : (nameD n d).pos = 0 := by unfold nameD; split; split; all_goals rfl
 have hav : av (Sub.mk (Tr.mk (nameD n d) (namedRs n 0 ks d))) = .agg [.int .i64 n.kind, .int .i64 0, .int .i64 A, .str B, .sl (n.kids.map av), .sl ((n.pats.map (renF (fun k => dnN ((d + k : Nat) : Int)))).map av), .sl (((namedRs n 0 ks d).map Sub.mk).map av)] := by
  rw [av_Sub, nameD_kind, hN0, nameD_kids, nameD_pats, ← hA, ← hB]
 rw [hav]
 have CB := l15Binds_ok n.kind
 have hbb : bindB n.kind = bindsK n.kind := by simp [bindB, bindKs, bindsK, Bool.or_assoc]
 rw [hbb] at CB
 have C1 := l15Name_ok (d : Int) (by omega)
 have hcase : (n.kind = 3 ∧ n.s = bs []) ∨ (n.kind = 3 ∧ ¬ n.s = bs []) ∨ (¬ n.kind = 3 ∧ bindsK n.kind = true) ∨ (¬ n.kind = 3 ∧ bindsK n.kind = false) := by
  by_cases h3 : n.kind = 3
  ·by_cases hs : n.s = bs []
   ·exact .inl ⟨h3, hs⟩
   ·exact .inr (.inl ⟨h3, hs⟩)
  ·cases bindsK n.kind
   ·exact .inr (.inr (.inr ⟨h3, rfl⟩))
   ·exact .inr (.inr (.inl ⟨h3, rfl⟩))
 rcases hcase with ⟨h3, hs⟩ | ⟨h3, hs⟩ | ⟨h3, hbk⟩ | ⟨h3, hbk⟩
 case' inl =>
  have hkb : bindsK n.kind = false := by rw [h3]; rfl
  rw [hkb] at CB
  rw [nameD, if_pos h3, if_pos hs] at hA hB
  have ht0 := ht3 h3 hs
  have C2 := l15Name_ok ((d : Int) - 1 - n.n) (by omega)
  simp +contextual -dsimp (maxSteps := 2000000) only [↓SD, SU, SB, simprocAttr, ir_spec_l15Named, av_Sub, map_len]
  intro v4 v5
  refine aCallK_of _ CB ?_
  simp +contextual -dsimp (maxSteps := 2000000) only [↓SD, SU, SB, simprocAttr, h3, hs]
  refine ⟨by omega, by omega, ?_⟩
  refine aCallK_of _ C2 ?_
  simp +contextual -dsimp (maxSteps := 2000000) only [↓SD, SU, SB, simprocAttr]
  intro v49
  rw [map_len]
  refine aLoop_goes (X := CwS) (fun x => ⟨[(1, .int .i64 d), (2, .obj [.int .i64 n.kind, .int .i64 n.pos, .int .i64 n.n, .str n.s, .sl (n.kids.map av), .sl (n.pats.map av), .sl ((ks.map Sub.mk).map av)]), (4, .ptr 4 v4 0 0), (5, .ptr 5 v5 0 0), (6, .row 49 x.u x.j), (52, .sl (n.pats.map av)), (53, .int .i64 n.pats.length), (54, .int .i64 x.j)], [(4, ⟨v4, false, 47, 7, [.agg [.int .i64 0, .int .i64 0, .int .i64 0, .str (bs []), .nils, .nils, .nils]]⟩), (5, ⟨v5, false, 47, 7, [.agg [.int .i64 n.kind, .int .i64 0, .int .i64 A, .str B, .sl (n.kids.map av), .row 78 x.w x.j, .nils]]⟩), (49, ⟨x.u, false, 3, 1, ((n.pats.take x.j).map moreQ).map av⟩), (78, ⟨x.w, false, 89, 1, ((n.pats.take x.j).map (renF (fun k => dnN ((d + k : Nat) : Int)))).map av⟩)]⟩) (fun x => x.j ≤ n.pats.length) (fun x => n.pats.length - x.j) ?_ ?_
  ·refine Goes.adoptB 5 0 5 78 89 1 rfl rfl Nat.zero_lt_one rfl (by decide) fun w => ?_
   exact Goes.le ⟨⟨0, v49, w⟩, Nat.zero_le _, rfl⟩ (by simp +contextual -dsimp only [↓SD, SU, SB, simprocAttr, hA, hB, h3]) (by simp +contextual -dsimp only [↓SD, SU, SB, simprocAttr, hA, hB, h3, List.take_zero, List.map_nil])
 case' inr.inl =>
  have hkb : bindsK n.kind = false := by rw [h3]; rfl
  rw [hkb] at CB
  rw [nameD, if_pos h3, if_neg hs] at hA hB
  simp +contextual -dsimp (maxSteps := 2000000) only [↓SD, SU, SB, simprocAttr, ir_spec_l15Named, av_Sub, map_len]
  intro v4 v5
  refine aCallK_of _ CB ?_
  simp +contextual -dsimp (maxSteps := 2000000) only [↓SD, SU, SB, simprocAttr, h3, hs]
  intro v49
  rw [map_len]
  refine aLoop_goes (X := CwS) (fun x => ⟨[(1, .int .i64 d), (2, .obj [.int .i64 n.kind, .int .i64 n.pos, .int .i64 n.n, .str n.s, .sl (n.kids.map av), .sl (n.pats.map av), .sl ((ks.map Sub.mk).map av)]), (4, .ptr 4 v4 0 0), (5, .ptr 5 v5 0 0), (6, .row 49 x.u x.j), (52, .sl (n.pats.map av)), (53, .int .i64 n.pats.length), (54, .int .i64 x.j)], [(4, ⟨v4, false, 47, 7, [.agg [.int .i64 0, .int .i64 0, .int .i64 0, .str (bs []), .nils, .nils, .nils]]⟩), (5, ⟨v5, false, 47, 7, [.agg [.int .i64 n.kind, .int .i64 0, .int .i64 A, .str B, .sl (n.kids.map av), .row 78 x.w x.j, .nils]]⟩), (49, ⟨x.u, false, 3, 1, ((n.pats.take x.j).map moreQ).map av⟩), (78, ⟨x.w, false, 89, 1, ((n.pats.take x.j).map (renF (fun k => dnN ((d + k : Nat) : Int)))).map av⟩)]⟩) (fun x => x.j ≤ n.pats.length) (fun x => n.pats.length - x.j) ?_ ?_
  ·refine Goes.adoptB 5 0 5 78 89 1 rfl rfl Nat.zero_lt_one rfl (by decide) fun w => ?_
   exact Goes.le ⟨⟨0, v49, w⟩, Nat.zero_le _, rfl⟩ (by simp +contextual -dsimp only [↓SD, SU, SB, simprocAttr, hA, hB, h3]) (by simp +contextual -dsimp only [↓SD, SU, SB, simprocAttr, hA, hB, h3, List.take_zero, List.map_nil])
 case' inr.inr.inl =>
  rw [hbk] at CB
  rw [nameD, if_neg h3] at hA hB
  simp only [hbk, if_true] at hA hB
  have C2 := l15Name_ok (d : Int) (by omega)
  simp +contextual -dsimp (maxSteps := 2000000) only [↓SD, SU, SB, simprocAttr, ir_spec_l15Named, av_Sub, map_len]
  intro v4 v5
  refine aCallK_of _ CB ?_
  simp +contextual -dsimp (maxSteps := 2000000) only [↓SD, SU, SB, simprocAttr]
  refine aCallK_of _ C2 ?_
  simp +contextual -dsimp (maxSteps := 2000000) only [↓SD, SU, SB, simprocAttr, h3]
  intro v49
  rw [map_len]
  refine aLoop_goes (X := CwS) (fun x => ⟨[(1, .int .i64 d), (2, .obj [.int .i64 n.kind, .int .i64 n.pos, .int .i64 n.n, .str n.s, .sl (n.kids.map av), .sl (n.pats.map av), .sl ((ks.map Sub.mk).map av)]), (4, .ptr 4 v4 0 0), (5, .ptr 5 v5 0 0), (6, .row 49 x.u x.j), (52, .sl (n.pats.map av)), (53, .int .i64 n.pats.length), (54, .int .i64 x.j)], [(4, ⟨v4, false, 47, 7, [.agg [.int .i64 0, .int .i64 0, .int .i64 0, .str (bs []), .nils, .nils, .nils]]⟩), (5, ⟨v5, false, 47, 7, [.agg [.int .i64 n.kind, .int .i64 0, .int .i64 A, .str B, .sl (n.kids.map av), .row 78 x.w x.j, .nils]]⟩), (49, ⟨x.u, false, 3, 1, ((n.pats.take x.j).map moreQ).map av⟩), (78, ⟨x.w, false, 89, 1, ((n.pats.take x.j).map (renF (fun k => dnN ((d + k : Nat) : Int)))).map av⟩)]⟩) (fun x => x.j ≤ n.pats.length) (fun x => n.pats.length - x.j) ?_ ?_
  ·refine Goes.adoptB 5 0 5 78 89 1 rfl rfl Nat.zero_lt_one rfl (by decide) fun w => ?_
   exact Goes.le ⟨⟨0, v49, w⟩, Nat.zero_le _, rfl⟩ (by simp +contextual -dsimp only [↓SD, SU, SB, simprocAttr, hA, hB, h3]) (by simp +contextual -dsimp only [↓SD, SU, SB, simprocAttr, hA, hB, h3, List.take_zero, List.map_nil])
 case' inr.inr.inr =>
  rw [hbk] at CB
  rw [nameD, if_neg h3] at hA hB
  simp only [hbk, Bool.false_eq_true, if_false] at hA hB
  simp +contextual -dsimp (maxSteps := 2000000) only [↓SD, SU, SB, simprocAttr, ir_spec_l15Named, av_Sub, map_len]
  intro v4 v5
  refine aCallK_of _ CB ?_
  simp +contextual -dsimp (maxSteps := 2000000) only [↓SD, SU, SB, simprocAttr, h3]
  intro v49
  rw [map_len]
  refine aLoop_goes (X := CwS) (fun x => ⟨[(1, .int .i64 d), (2, .obj [.int .i64 n.kind, .int .i64 n.pos, .int .i64 n.n, .str n.s, .sl (n.kids.map av), .sl (n.pats.map av), .sl ((ks.map Sub.mk).map av)]), (4, .ptr 4 v4 0 0), (5, .ptr 5 v5 0 0), (6, .row 49 x.u x.j), (52, .sl (n.pats.map av)), (53, .int .i64 n.pats.length), (54, .int .i64 x.j)], [(4, ⟨v4, false, 47, 7, [.agg [.int .i64 0, .int .i64 0, .int .i64 0, .str (bs []), .nils, .nils, .nils]]⟩), (5, ⟨v5, false, 47, 7, [.agg [.int .i64 n.kind, .int .i64 0, .int .i64 A, .str B, .sl (n.kids.map av), .row 78 x.w x.j, .nils]]⟩), (49, ⟨x.u, false, 3, 1, ((n.pats.take x.j).map moreQ).map av⟩), (78, ⟨x.w, false, 89, 1, ((n.pats.take x.j).map (renF (fun k => dnN ((d + k : Nat) : Int)))).map av⟩)]⟩) (fun x => x.j ≤ n.pats.length) (fun x => n.pats.length - x.j) ?_ ?_
  ·refine Goes.adoptB 5 0 5 78 89 1 rfl rfl Nat.zero_lt_one rfl (by decide) fun w => ?_
   exact Goes.le ⟨⟨0, v49, w⟩, Nat.zero_le _, rfl⟩ (by simp +contextual -dsimp only [↓SD, SU, SB, simprocAttr, hA, hB, h3]) (by simp +contextual -dsimp only [↓SD, SU, SB, simprocAttr, hA, hB, h3, List.take_zero, List.map_nil])
 all_goals
  clear hA hB CB C1 hbb
  rintro ⟨j, u, w⟩ hj
  dsimp only at hj ⊢
  by_cases hlt : j < n.pats.length
  ·have e1 := getD_map av n.pats j .top hlt
   have hbq := bulk_mem (List.getElem_mem hlt)
   have hbq2 : Bulk.bulk n.pats[j] = Bulk.bulk n.pats[j].nodes + 1 := rfl
   have hql := bulk_length n.pats[j].nodes
   have CS := l15Some_ok d n.pats[j].nodes.length (by omega) (by omega)
   have CP := l15PatN_ok n.pats[j].nodes d (by omega)
   have hti : ((n.pats.take (j + 1)).map moreQ).map (av : Int → AV) = ((n.pats.take j).map moreQ).map av ++ [.int .i64 ((varsOf n.pats[j].nodes).length : Nat)] := by
    rw [List.take_succ_eq_append_getElem hlt, List.map_append, List.map_append]; rfl
   have htr : ((n.pats.take (j + 1)).map (renF (fun k => dnN ((d + k : Nat) : Int)))).map (av : Pat → AV) = ((n.pats.take j).map (renF (fun k => dnN ((d + k : Nat) : Int)))).map av ++ [.agg [.sl ((renK (fun k => dnN ((d + k : Nat) : Int)) 0 n.pats[j].nodes).map av)]] := by
    rw [List.take_succ_eq_append_getElem hlt, List.map_append, List.map_append]; rfl
   have hIl : (((n.pats.take j).map moreQ).map (av : Int → AV)).length = j := by simp; omega
   have hRl : (((n.pats.take j).map (renF (fun k => dnN ((d + k : Nat) : Int)))).map (av : Pat → AV)).length = j := by simp; omega
   generalize ((n.pats.take j).map moreQ).map (av : Int → AV) = I at *
   generalize ((n.pats.take j).map (renF (fun k => dnN ((d + k : Nat) : Int)))).map (av : Pat → AV) = R at *
   generalize n.pats[j] = q at *
   have hVl : ((varsOf q.nodes).map (av : ByteArray → AV)).length = (varsOf q.nodes).length := List.length_map _
   generalize renK (fun k => dnN ((d + k : Nat) : Int)) 0 q.nodes = Q at *
   have hIt : List.take j I = I := List.take_of_length_le (by omega)
   have hRt : List.take j R = R := List.take_of_length_le (by omega)
   simp +contextual -dsimp (maxSteps := 2000000) only [↓SD, SU, SB, simprocAttr, hlt, e1, map_len, av_Pat]
   intro v8
   refine ghost_of (Goes.frz 8 (Goes.pur 8 (Goes.here ?_)))
   simp +contextual -dsimp (maxSteps := 2000000) only [↓SD, SU, SB, simprocAttr, hlt, e1, map_len, av_Pat, map_nop]
   refine aCallK_of _ CS ?_
   simp +contextual -dsimp (maxSteps := 2000000) only [↓SD, SU, SB, simprocAttr, map_len, map_nop]
   refine aCallK_of _ CP ?_
   simp +contextual -dsimp (maxSteps := 2000000) only [↓SD, SU, SB, simprocAttr, hIl, hIt, hRl, hRt, map_nop, hVl]
   intro v9
   refine ⟨⟨by omega, by unfold maxLen; omega⟩, fun u' => ⟨⟨by omega, by unfold maxLen; omega⟩, fun w' => ⟨by omega, Goes.le ⟨⟨j + 1, u', w'⟩, ⟨hlt, (by first | omega | (simp only; omega))⟩, rfl⟩ (by simp +contextual -dsimp only [↓SD, SU, SB, simprocAttr, Int.natCast_add]) (by simp +contextual -dsimp only [↓SD, SU, SB, simprocAttr, hti, htr])⟩⟩⟩
  ·obtain rfl : j = n.pats.length := by omega
   have hMl : ((n.pats.map moreQ).map (av : Int → AV)).length = n.pats.length := by simp
   rw [List.take_length]
   have hRl : ((n.pats.map (renF (fun k => dnN ((d + k : Nat) : Int)))).map (av : Pat → AV)).length = n.pats.length := by simp
   have hRt : List.take n.pats.length ((n.pats.map (renF (fun k => dnN ((d + k : Nat) : Int)))).map (av : Pat → AV)) = (n.pats.map (renF (fun k => dnN ((d + k : Nat) : Int)))).map av := List.take_of_length_le (by omega)
   have hRm : ∀ hp, ((n.pats.map (renF (fun k => dnN ((d + k : Nat) : Int)))).map (av : Pat → AV)).map (AV.pur hp) = (n.pats.map (renF (fun k => dnN ((d + k : Nat) : Int)))).map av := fun hp => map_nop _ hp
   have hkl : ((ks.map Sub.mk).map (av : Sub → AV)).length = ks.length := by simp
   obtain ⟨RR, hRR⟩ : ∃ RR, RR = (n.pats.map (renF (fun k => dnN ((d + k : Nat) : Int)))).map (av : Pat → AV) := ⟨_, rfl⟩
   rw [← hRR] at hRl hRt hRm ⊢
   clear hRR
   simp +contextual -dsimp (maxSteps := 2000000) only [↓SD, SU, SB, simprocAttr, Nat.lt_irrefl, hkl]
   refine aLoop_goes (X := Nat × Nat) (fun x => ⟨[(1, .int .i64 d), (2, .obj [.int .i64 n.kind, .int .i64 n.pos, .int .i64 n.n, .str n.s, .sl (n.kids.map av), .sl (n.pats.map av), .sl ((ks.map Sub.mk).map av)]), (4, .ptr 4 v4 0 0), (5, .ptr 5 v5 0 0), (6, .row 49 u n.pats.length), (84, .int .i64 ks.length), (85, .int .i64 x.1)], [(4, ⟨v4, false, 47, 7, [.agg [.int .i64 0, .int .i64 0, .int .i64 0, .str (bs []), .nils, .nils, .nils]]⟩), (5, ⟨v5, false, 47, 7, [.agg [.int .i64 n.kind, .int .i64 0, .int .i64 A, .str B, .sl (n.kids.map av), .row 78 w n.pats.length, .row 142 x.2 x.1]]⟩), (49, ⟨u, false, 3, 1, (n.pats.map moreQ).map av⟩), (78, ⟨w, false, 89, 1, RR⟩), (142, ⟨x.2, false, 47, 7, (((namedRs n 0 ks d).take x.1).map Sub.mk).map av⟩)]⟩) (fun x => x.1 ≤ ks.length) (fun x => ks.length - x.1) ?_ ?_
   ·refine Goes.adoptB 5 0 6 142 47 7 rfl rfl Nat.zero_lt_one rfl (by decide) fun z => ?_
    exact Goes.le ⟨(0, z), Nat.zero_le _, rfl⟩ (by simp +contextual -dsimp only [↓SD, SU, SB, simprocAttr, List.take_zero]) (by simp +contextual -dsimp only [↓SD, SU, SB, simprocAttr, List.take_zero, List.map_nil])
   rintro ⟨i, z⟩ hi
   dsimp only at hi ⊢
   by_cases hlt2 : i < ks.length
   ·have hlt3 : i < (ks.map Sub.mk).length := by rw [List.length_map]; exact hlt2
    have e1 := getD_map av (ks.map Sub.mk) i .top hlt3
    rw [List.getElem_map] at e1
    have hkm := List.getElem_mem hlt2
    have hw := wts_mem hkm
    have hin := under_wt n i d
    have CR := ih ks[i] hkm (okMs_mem hoks hkm) (underN n i d) (by omega)
    have hS : (((namedRs n 0 ks d).take (i + 1)).map Sub.mk).map (av : Sub → AV) = (((namedRs n 0 ks d).take i).map Sub.mk).map av ++ [av (Sub.mk (namedR ks[i] (underN n i d)))] := by
     rw [namedRs_take n d ks i hlt2, List.map_append, List.map_append]; rfl
    have hSl : ((((namedRs n 0 ks d).take i).map Sub.mk).map (av : Sub → AV)).length = i := by
     rw [List.length_map, List.length_map, List.length_take, namedRs_len]; omega
    generalize (((namedRs n 0 ks d).take i).map Sub.mk).map (av : Sub → AV) = SS at *
    generalize namedR ks[i] (underN n i d) = tk at *
    generalize ks[i] = k at *
    have hSt : List.take i SS = SS := List.take_of_length_le (by omega)
    have hcase : (n.kind = 13 ∧ 0 < i) ∨ (n.kind = 13 ∧ i = 0) ∨ n.kind = 5 ∨ n.kind = 8 ∨ (i = 1 ∧ n.kind = 7) ∨ (i = 1 ∧ n.kind = 15) ∨ (i = 1 ∧ ¬ n.kind = 13 ∧ ¬ n.kind = 5 ∧ ¬ n.kind = 8 ∧ ¬ n.kind = 7 ∧ ¬ n.kind = 15) ∨ (¬ i = 1 ∧ n.kind = 7) ∨ (¬ i = 1 ∧ n.kind = 15) ∨ (¬ i = 1 ∧ ¬ n.kind = 13 ∧ ¬ n.kind = 5 ∧ ¬ n.kind = 8 ∧ ¬ n.kind = 7 ∧ ¬ n.kind = 15) := by clear h3; omega
    rcases hcase with ⟨h13, h0⟩ | ⟨h13, h0⟩ | h5 | h8 | ⟨h1, h7⟩ | ⟨h1, h15⟩ | ⟨h1, g1, g2, g3, g4, g5⟩ | ⟨h1, h7⟩ | ⟨h1, h15⟩ | ⟨h1, g1, g2, g3, g4, g5⟩
    ·have F13 : (n.kind = 13) = True := eq_true (by omega)
     have F5 : (n.kind = 5) = False := eq_false (by omega)
     have F8 : (n.kind = 8) = False := eq_false (by omega)
     have F7 : (n.kind = 7) = False := eq_false (by omega)
     have F15 : (n.kind = 15) = False := eq_false (by omega)
     have J0 : ((0 : Int) < (i : Int)) = True := eq_true (by omega)
     have J1 : 0 = 0 := rfl
     have hlp : i - 1 < n.pats.length := by have := ht13 h13; omega
     have hji : (i : Int) - 1 = ((i - 1 : Nat) : Int) := by omega
     have hlm : i - 1 < (n.pats.map moreQ).length := by rw [List.length_map]; exact hlp
     have e2 := getD_map av (n.pats.map moreQ) (i - 1) .top hlm
     rw [List.getElem_map] at e2
     have hpg : n.pats.getD (i - 1) ⟨[]⟩ = n.pats[i - 1] := by simp [hlp]
     have hie : underN n i d = d + (varsOf n.pats[i - 1].nodes).length := by unfold underN; rw [if_pos ⟨h13, h0⟩, hpg]
     have hmq : moreQ n.pats[i - 1] = ((varsOf n.pats[i - 1].nodes).length : Nat) := rfl
     have hci : (d : Int) + ((varsOf n.pats[i - 1].nodes).length : Int) = ((underN n i d : Nat) : Int) := by rw [hie]; omega
     rw [hmq] at e2
     generalize (varsOf n.pats[i - 1].nodes).length = vl at *
     simp +contextual -dsimp (maxSteps := 2000000) only [↓SD, SU, SB, simprocAttr, hlt2, hkl, e1, map_len, F13, F5, F8, F7, F15, J0, J1, hji, e2, hlp, hlm, hMl, hci, av_int, sub_len, sub_agg, sub_pur, sub_purA, sub_ok]
     refine ⟨by omega, by omega, ?_⟩
     refine aCallK_of _ CR ?_
     simp +contextual -dsimp (maxSteps := 2000000) only [↓SD, SU, SB, simprocAttr, elem1_ok, hSl, hSt, sub_len, sub_agg, sub_pur, sub_purA, sub_ok]
     refine ⟨⟨by omega, by unfold maxLen; omega⟩, fun z' => ⟨by omega, Goes.le ⟨(i + 1, z'), ⟨hlt2, (by first | omega | (simp only; omega))⟩, rfl⟩ (by simp +contextual -dsimp only [↓SD, SU, SB, simprocAttr, Int.natCast_add]) (by simp +contextual -dsimp only [↓SD, SU, SB, simprocAttr, hS])⟩⟩
    ·have F13 : (n.kind = 13) = True := eq_true (by omega)
     have F5 : (n.kind = 5) = False := eq_false (by omega)
     have F8 : (n.kind = 8) = False := eq_false (by omega)
     have F7 : (n.kind = 7) = False := eq_false (by omega)
     have F15 : (n.kind = 15) = False := eq_false (by omega)
     have J0 : ((0 : Int) < (i : Int)) = False := eq_false (by omega)
     have J1 : ((i : Int) = 1) = False := eq_false (by omega)
     have hie : underN n i d = d := by unfold underN; rw [if_neg (by omega), if_neg (by omega)]
     rw [hie] at CR
     simp +contextual -dsimp (maxSteps := 2000000) only [↓SD, SU, SB, simprocAttr, hlt2, hkl, e1, map_len, F13, F5, F8, F7, F15, J0, J1, sub_len, sub_agg, sub_pur, sub_purA, sub_ok]
     refine aCallK_of _ CR ?_
     simp +contextual -dsimp (maxSteps := 2000000) only [↓SD, SU, SB, simprocAttr, elem1_ok, hSl, hSt, sub_len, sub_agg, sub_pur, sub_purA, sub_ok]
     refine ⟨⟨by omega, by unfold maxLen; omega⟩, fun z' => ⟨by omega, Goes.le ⟨(i + 1, z'), ⟨hlt2, (by first | omega | (simp only; omega))⟩, rfl⟩ (by simp +contextual -dsimp only [↓SD, SU, SB, simprocAttr, Int.natCast_add]) (by simp +contextual -dsimp only [↓SD, SU, SB, simprocAttr, hS])⟩⟩
    ·have F13 : (n.kind = 13) = False := eq_false (by omega)
     have F5 : (n.kind = 5) = True := eq_true (by omega)
     have F8 : (n.kind = 8) = False := eq_false (by omega)
     have F7 : (n.kind = 7) = False := eq_false (by omega)
     have F15 : (n.kind = 15) = False := eq_false (by omega)
     have J0 : 0 = 0 := rfl
     have J1 : 0 = 0 := rfl
     have hie : underN n i d = d + 1 := by unfold underN; rw [if_neg (by omega), if_pos (by omega)]
     have hci : (d : Int) + 1 = ((underN n i d : Nat) : Int) := by rw [hie]; omega
     simp +contextual -dsimp (maxSteps := 2000000) only [↓SD, SU, SB, simprocAttr, hlt2, hkl, e1, map_len, F13, F5, F8, F7, F15, J0, J1, hci, sub_len, sub_agg, sub_pur, sub_purA, sub_ok]
     refine ⟨by omega, ?_⟩
     refine aCallK_of _ CR ?_
     simp +contextual -dsimp (maxSteps := 2000000) only [↓SD, SU, SB, simprocAttr, elem1_ok, hSl, hSt, sub_len, sub_agg, sub_pur, sub_purA, sub_ok]
     refine ⟨⟨by omega, by unfold maxLen; omega⟩, fun z' => ⟨by omega, Goes.le ⟨(i + 1, z'), ⟨hlt2, (by first | omega | (simp only; omega))⟩, rfl⟩ (by simp +contextual -dsimp only [↓SD, SU, SB, simprocAttr, Int.natCast_add]) (by simp +contextual -dsimp only [↓SD, SU, SB, simprocAttr, hS])⟩⟩
    ·have F13 : (n.kind = 13) = False := eq_false (by omega)
     have F5 : (n.kind = 5) = False := eq_false (by omega)
     have F8 : (n.kind = 8) = True := eq_true (by omega)
     have F7 : (n.kind = 7) = False := eq_false (by omega)
     have F15 : (n.kind = 15) = False := eq_false (by omega)
     have J0 : 0 = 0 := rfl
     have J1 : 0 = 0 := rfl
     have hie : underN n i d = d + 1 := by unfold underN; rw [if_neg (by omega), if_pos (by omega)]
     have hci : (d : Int) + 1 = ((underN n i d : Nat) : Int) := by rw [hie]; omega
     simp +contextual -dsimp (maxSteps := 2000000) only [↓SD, SU, SB, simprocAttr, hlt2, hkl, e1, map_len, F13, F5, F8, F7, F15, J0, J1, hci, sub_len, sub_agg, sub_pur, sub_purA, sub_ok]
     refine ⟨by omega, ?_⟩
     refine aCallK_of _ CR ?_
     simp +contextual -dsimp (maxSteps := 2000000) only [↓SD, SU, SB, simprocAttr, elem1_ok, hSl, hSt, sub_len, sub_agg, sub_pur, sub_purA, sub_ok]
     refine ⟨⟨by omega, by unfold maxLen; omega⟩, fun z' => ⟨by omega, Goes.le ⟨(i + 1, z'), ⟨hlt2, (by first | omega | (simp only; omega))⟩, rfl⟩ (by simp +contextual -dsimp only [↓SD, SU, SB, simprocAttr, Int.natCast_add]) (by simp +contextual -dsimp only [↓SD, SU, SB, simprocAttr, hS])⟩⟩
    ·have F13 : (n.kind = 13) = False := eq_false (by omega)
     have F5 : (n.kind = 5) = False := eq_false (by omega)
     have F8 : (n.kind = 8) = False := eq_false (by omega)
     have F7 : (n.kind = 7) = True := eq_true (by omega)
     have F15 : (n.kind = 15) = False := eq_false (by omega)
     have J0 : 0 = 0 := rfl
     have J1 : ((i : Int) = 1) = True := eq_true (by omega)
     have hie : underN n i d = d + 1 := by unfold underN; rw [if_neg (by omega), if_pos (by omega)]
     have hci : (d : Int) + 1 = ((underN n i d : Nat) : Int) := by rw [hie]; omega
     simp +contextual -dsimp (maxSteps := 2000000) only [↓SD, SU, SB, simprocAttr, hlt2, hkl, e1, map_len, F13, F5, F8, F7, F15, J0, J1, hci, sub_len, sub_agg, sub_pur, sub_purA, sub_ok]
     refine ⟨by omega, ?_⟩
     refine aCallK_of _ CR ?_
     simp +contextual -dsimp (maxSteps := 2000000) only [↓SD, SU, SB, simprocAttr, elem1_ok, hSl, hSt, sub_len, sub_agg, sub_pur, sub_purA, sub_ok]
     refine ⟨⟨by omega, by unfold maxLen; omega⟩, fun z' => ⟨by omega, Goes.le ⟨(i + 1, z'), ⟨hlt2, (by first | omega | (simp only; omega))⟩, rfl⟩ (by simp +contextual -dsimp only [↓SD, SU, SB, simprocAttr, Int.natCast_add]) (by simp +contextual -dsimp only [↓SD, SU, SB, simprocAttr, hS])⟩⟩
    ·have F13 : (n.kind = 13) = False := eq_false (by omega)
     have F5 : (n.kind = 5) = False := eq_false (by omega)
     have F8 : (n.kind = 8) = False := eq_false (by omega)
     have F7 : (n.kind = 7) = False := eq_false (by omega)
     have F15 : (n.kind = 15) = True := eq_true (by omega)
     have J0 : 0 = 0 := rfl
     have J1 : ((i : Int) = 1) = True := eq_true (by omega)
     have hie : underN n i d = d + 1 := by unfold underN; rw [if_neg (by omega), if_pos (by omega)]
     have hci : (d : Int) + 1 = ((underN n i d : Nat) : Int) := by rw [hie]; omega
     simp +contextual -dsimp (maxSteps := 2000000) only [↓SD, SU, SB, simprocAttr, hlt2, hkl, e1, map_len, F13, F5, F8, F7, F15, J0, J1, hci, sub_len, sub_agg, sub_pur, sub_purA, sub_ok]
     refine ⟨by omega, ?_⟩
     refine aCallK_of _ CR ?_
     simp +contextual -dsimp (maxSteps := 2000000) only [↓SD, SU, SB, simprocAttr, elem1_ok, hSl, hSt, sub_len, sub_agg, sub_pur, sub_purA, sub_ok]
     refine ⟨⟨by omega, by unfold maxLen; omega⟩, fun z' => ⟨by omega, Goes.le ⟨(i + 1, z'), ⟨hlt2, (by first | omega | (simp only; omega))⟩, rfl⟩ (by simp +contextual -dsimp only [↓SD, SU, SB, simprocAttr, Int.natCast_add]) (by simp +contextual -dsimp only [↓SD, SU, SB, simprocAttr, hS])⟩⟩
    ·have F13 : (n.kind = 13) = False := eq_false (by omega)
     have F5 : (n.kind = 5) = False := eq_false (by omega)
     have F8 : (n.kind = 8) = False := eq_false (by omega)
     have F7 : (n.kind = 7) = False := eq_false (by omega)
     have F15 : (n.kind = 15) = False := eq_false (by omega)
     have J0 : 0 = 0 := rfl
     have J1 : ((i : Int) = 1) = True := eq_true (by omega)
     have hie : underN n i d = d := by unfold underN; rw [if_neg (by omega), if_neg (by omega)]
     rw [hie] at CR
     simp +contextual -dsimp (maxSteps := 2000000) only [↓SD, SU, SB, simprocAttr, hlt2, hkl, e1, map_len, F13, F5, F8, F7, F15, J0, J1, sub_len, sub_agg, sub_pur, sub_purA, sub_ok]
     refine aCallK_of _ CR ?_
     simp +contextual -dsimp (maxSteps := 2000000) only [↓SD, SU, SB, simprocAttr, elem1_ok, hSl, hSt, sub_len, sub_agg, sub_pur, sub_purA, sub_ok]
     refine ⟨⟨by omega, by unfold maxLen; omega⟩, fun z' => ⟨by omega, Goes.le ⟨(i + 1, z'), ⟨hlt2, (by first | omega | (simp only; omega))⟩, rfl⟩ (by simp +contextual -dsimp only [↓SD, SU, SB, simprocAttr, Int.natCast_add]) (by simp +contextual -dsimp only [↓SD, SU, SB, simprocAttr, hS])⟩⟩
    ·have F13 : (n.kind = 13) = False := eq_false (by omega)
     have F5 : (n.kind = 5) = False := eq_false (by omega)
     have F8 : (n.kind = 8) = False := eq_false (by omega)
     have F7 : (n.kind = 7) = True := eq_true (by omega)
     have F15 : (n.kind = 15) = False := eq_false (by omega)
     have J0 : 0 = 0 := rfl
     have J1 : ((i : Int) = 1) = False := eq_false (by omega)
     have hie : underN n i d = d := by unfold underN; rw [if_neg (by omega), if_neg (by omega)]
     rw [hie] at CR
     simp +contextual -dsimp (maxSteps := 2000000) only [↓SD, SU, SB, simprocAttr, hlt2, hkl, e1, map_len, F13, F5, F8, F7, F15, J0, J1, sub_len, sub_agg, sub_pur, sub_purA, sub_ok]
     refine aCallK_of _ CR ?_
     simp +contextual -dsimp (maxSteps := 2000000) only [↓SD, SU, SB, simprocAttr, elem1_ok, hSl, hSt, sub_len, sub_agg, sub_pur, sub_purA, sub_ok]
     refine ⟨⟨by omega, by unfold maxLen; omega⟩, fun z' => ⟨by omega, Goes.le ⟨(i + 1, z'), ⟨hlt2, (by first | omega | (simp only; omega))⟩, rfl⟩ (by simp +contextual -dsimp only [↓SD, SU, SB, simprocAttr, Int.natCast_add]) (by simp +contextual -dsimp only [↓SD, SU, SB, simprocAttr, hS])⟩⟩
    ·have F13 : (n.kind = 13) = False := eq_false (by omega)
     have F5 : (n.kind = 5) = False := eq_false (by omega)
     have F8 : (n.kind = 8) = False := eq_false (by omega)
     have F7 : (n.kind = 7) = False := eq_false (by omega)
     have F15 : (n.kind = 15) = True := eq_true (by omega)
     have J0 : 0 = 0 := rfl
     have J1 : ((i : Int) = 1) = False := eq_false (by omega)
     have hie : underN n i d = d := by unfold underN; rw [if_neg (by omega), if_neg (by omega)]
     rw [hie] at CR
     simp +contextual -dsimp (maxSteps := 2000000) only [↓SD, SU, SB, simprocAttr, hlt2, hkl, e1, map_len, F13, F5, F8, F7, F15, J0, J1, sub_len, sub_agg, sub_pur, sub_purA, sub_ok]
     refine aCallK_of _ CR ?_
     simp +contextual -dsimp (maxSteps := 2000000) only [↓SD, SU, SB, simprocAttr, elem1_ok, hSl, hSt, sub_len, sub_agg, sub_pur, sub_purA, sub_ok]
     refine ⟨⟨by omega, by unfold maxLen; omega⟩, fun z' => ⟨by omega, Goes.le ⟨(i + 1, z'), ⟨hlt2, (by first | omega | (simp only; omega))⟩, rfl⟩ (by simp +contextual -dsimp only [↓SD, SU, SB, simprocAttr, Int.natCast_add]) (by simp +contextual -dsimp only [↓SD, SU, SB, simprocAttr, hS])⟩⟩
    ·have F13 : (n.kind = 13) = False := eq_false (by omega)
     have F5 : (n.kind = 5) = False := eq_false (by omega)
     have F8 : (n.kind = 8) = False := eq_false (by omega)
     have F7 : (n.kind = 7) = False := eq_false (by omega)
     have F15 : (n.kind = 15) = False := eq_false (by omega)
     have J0 : 0 = 0 := rfl
     have J1 : ((i : Int) = 1) = False := eq_false (by omega)
     have hie : underN n i d = d := by unfold underN; rw [if_neg (by omega), if_neg (by omega)]
     rw [hie] at CR
     simp +contextual -dsimp (maxSteps := 2000000) only [↓SD, SU, SB, simprocAttr, hlt2, hkl, e1, map_len, F13, F5, F8, F7, F15, J0, J1, sub_len, sub_agg, sub_pur, sub_purA, sub_ok]
     refine aCallK_of _ CR ?_
     simp +contextual -dsimp (maxSteps := 2000000) only [↓SD, SU, SB, simprocAttr, elem1_ok, hSl, hSt, sub_len, sub_agg, sub_pur, sub_purA, sub_ok]
     refine ⟨⟨by omega, by unfold maxLen; omega⟩, fun z' => ⟨by omega, Goes.le ⟨(i + 1, z'), ⟨hlt2, (by first | omega | (simp only; omega))⟩, rfl⟩ (by simp +contextual -dsimp only [↓SD, SU, SB, simprocAttr, Int.natCast_add]) (by simp +contextual -dsimp only [↓SD, SU, SB, simprocAttr, hS])⟩⟩
   ·obtain rfl : i = ks.length := by omega
    rw [List.take_of_length_le (by rw [namedRs_len]; exact Nat.le_refl _)]
    have hSl : (((namedRs n 0 ks d).map Sub.mk).map (av : Sub → AV)).length = ks.length := by simp [namedRs_len]
    have hSt : List.take ks.length (((namedRs n 0 ks d).map Sub.mk).map (av : Sub → AV)) = ((namedRs n 0 ks d).map Sub.mk).map av := List.take_of_length_le (by omega)
    have hSm : ∀ hp, (((namedRs n 0 ks d).map Sub.mk).map (av : Sub → AV)).map (AV.pur hp) = ((namedRs n 0 ks d).map Sub.mk).map av := fun hp => map_nop _ hp
    simp +contextual -dsimp (maxSteps := 2000000) only [↓SD, SU, SB, simprocAttr, Nat.lt_irrefl, hSl, hSt, hSm, hRl, hRt, hRm, h3]
end Go.Proofs.YtjifpdcflankpaaGreat

namespace Go.Proofs.YtjifpdcflankpaaGreat
open Go.RowKit Go.Proofs.YtjifpdcflankpaaGreat.Av Go.Proofs.YtjifpdcflankpaaGreat.Ml
open Go.Proofs.YtjifpdcflankpaaGreat.Av.AVal (av)

theorem shapeS_no {c : Program} {j : Nat} (hj : j < c.nodes.length) (h : nodeS c.nodes[j] = false) : shapeS c = false := by
 have h2 : c.nodes.all nodeS = false := all_false' nodeS hj h
 rw [shapeS, h2]; simp
def q6 (q : Pat) : Bool := decide (q.nodes.length ≤ 600)
def k0 (k : Int) : Bool := decide (0 ≤ k)
theorem nodeS_as (n : Node) : nodeS n = (!(decide (n.kind = 13) && !decide ((n.pats.length : Int) = n.kids.length - 1)) && decide (0 ≤ n.n) && !(decide (n.kind = 3) && decide (n.s = bs []) && decide (360000 < n.n)) && n.pats.all q6 && n.kids.all k0) := rfl
set_option maxHeartbeats 4000000 in
theorem l15Shape_ok (c : Program) (hx : Bulk.bulk c ≤ 4294967296) : CallsF Tryz.prog 81 [av c] (.bool (shapeS c)) := by
 refine ir_spec_l15Shape.F rfl (by simp; exact AVal.clean c) (AvPure.bool _) ?_
 have hbc : Bulk.bulk c = Bulk.bulk c.types + Bulk.bulk c.nodes + 1 := rfl
 have hl := bulk_length c.nodes
 by_cases h1 : (c.nodes.length : Int) < 1
 ·have hs : shapeS c = false := by rw [shapeS, decide_eq_false (p := 1 ≤ c.nodes.length) (by omega)]; simp
  simp +contextual -dsimp (maxSteps := 2000000) only [↓SD, SU, SB, simprocAttr, ir_spec_l15Shape, av_Program, map_len, h1, hs]
 by_cases h2 : (600 : Int) < c.nodes.length
 ·have hs : shapeS c = false := by rw [shapeS, decide_eq_false (p := c.nodes.length ≤ 600) (by omega)]; simp
  simp +contextual -dsimp (maxSteps := 2000000) only [↓SD, SU, SB, simprocAttr, ir_spec_l15Shape, av_Program, map_len, h1, h2, hs]
 simp +contextual -dsimp (maxSteps := 2000000) only [↓SD, SU, SB, simprocAttr, ir_spec_l15Shape, av_Program, map_len, h1, h2]
 refine aLoop_of (X := Nat) (fun j => ⟨[(1, .obj [.sl (c.types.map av), .sl (c.nodes.map av)]), (20, .sl (c.nodes.map av)), (21, .int .i64 c.nodes.length), (22, .int .i64 j)], []⟩) (fun j => j ≤ c.nodes.length ∧ (c.nodes.take j).all nodeS = true) (fun j => c.nodes.length - j) 0 ⟨Nat.zero_le _, rfl⟩ (by simp +contextual -dsimp only [↓SD, SU, SB, simprocAttr]) trivial ?_
 rintro j ⟨hj, hq⟩
 by_cases hlt : j < c.nodes.length
 ·have e1 := getD_map av c.nodes j .top hlt
  have hnb := bulk_mem (List.getElem_mem hlt)
  have hno : nodeS c.nodes[j] = false → shapeS c = false := shapeS_no hlt
  have hyes : nodeS c.nodes[j] = true → (c.nodes.take (j + 1)).all nodeS = true := fun h => by
   rw [List.take_succ_eq_append_getElem hlt, List.all_append, hq, List.all_cons, h]; rfl
  generalize c.nodes[j] = n at *
  have hnb2 : Bulk.bulk n = Bulk.bulk n.kind + Bulk.bulk n.pos + Bulk.bulk n.n + Bulk.bulk n.s + Bulk.bulk n.kids + Bulk.bulk n.pats + 1 := rfl
  have hkl := bulk_length n.kids
  have hpl := bulk_length n.pats
  rw [av_Node] at e1
  have hcase : (n.kind = 13 ∧ ¬ (n.pats.length : Int) = n.kids.length - 1) ∨ (n.kind = 13 ∧ (n.pats.length : Int) = n.kids.length - 1 ∧ n.n < 0) ∨ (¬ n.kind = 13 ∧ n.n < 0) ∨ (n.kind = 3 ∧ ¬ n.n < 0 ∧ n.s = bs [] ∧ 360000 < n.n) ∨
   (n.kind = 3 ∧ ¬ n.n < 0 ∧ n.s = bs [] ∧ ¬ 360000 < n.n) ∨ (n.kind = 3 ∧ ¬ n.n < 0 ∧ ¬ n.s = bs []) ∨ (n.kind = 13 ∧ ¬ n.n < 0 ∧ (n.pats.length : Int) = n.kids.length - 1) ∨ (¬ n.kind = 3 ∧ ¬ n.n < 0 ∧ ¬ n.kind = 13) := by
   by_cases a : n.kind = 13
   ·by_cases b : (n.pats.length : Int) = n.kids.length - 1
    ·by_cases d : n.n < 0
     ·exact .inr (.inl ⟨a, b, d⟩)
     ·exact .inr (.inr (.inr (.inr (.inr (.inr (.inl ⟨a, d, b⟩))))))
    ·exact .inl ⟨a, b⟩
   ·by_cases d : n.n < 0
    ·exact .inr (.inr (.inl ⟨a, d⟩))
    ·by_cases e : n.kind = 3
     ·by_cases f : n.s = bs []
      ·by_cases g : 360000 < n.n
       ·exact .inr (.inr (.inr (.inl ⟨e, d, f, g⟩)))
       ·exact .inr (.inr (.inr (.inr (.inl ⟨e, d, f, g⟩))))
      ·exact .inr (.inr (.inr (.inr (.inr (.inl ⟨e, d, f⟩)))))
     ·exact .inr (.inr (.inr (.inr (.inr (.inr (.inr ⟨e, d, a⟩))))))
  rcases hcase with ⟨g1, g2⟩ | ⟨g1, g2, g3⟩ | ⟨g1, g3⟩ | ⟨g1, g3, g4, g5⟩ | ⟨g1, g3, g4, g5⟩ | ⟨g1, g3, g4⟩ | ⟨g1, g3, g4⟩ | ⟨g1, g3, g4⟩
  ·have hs := hno (by rw [nodeS_as]; simp [g1, g2])
   simp +contextual -dsimp (maxSteps := 2000000) only [↓SD, SU, SB, simprocAttr, map_len, hlt, e1, g1, g2, hs]
   exact ⟨by omega, by omega⟩
  ·have hs := hno (by rw [nodeS_as, decide_eq_false (p := 0 ≤ n.n) (by omega)]; simp)
   simp +contextual -dsimp (maxSteps := 2000000) only [↓SD, SU, SB, simprocAttr, map_len, hlt, e1, g1, g2, g3, hs]
   exact ⟨by omega, by omega⟩
  ·have hs := hno (by rw [nodeS_as, decide_eq_false (p := 0 ≤ n.n) (by omega)]; simp)
   simp +contextual -dsimp (maxSteps := 2000000) only [↓SD, SU, SB, simprocAttr, map_len, hlt, e1, g1, g3, hs]
  ·have hs := hno (by rw [nodeS_as]; simp [g1, g4, g5])
   simp +contextual -dsimp (maxSteps := 2000000) only [↓SD, SU, SB, simprocAttr, map_len, hlt, e1, g1, g3, g4, g5, hs]
  case' inr.inr.inr.inr.inl =>
   rw [show nodeS n = (n.pats.all q6 && n.kids.all k0) from by rw [nodeS_as, decide_eq_true (p := 0 ≤ n.n) (by omega)]; simp [g1, g4, g5]] at hno hyes
   simp +contextual -dsimp (maxSteps := 2000000) only [↓SD, SU, SB, simprocAttr, map_len, hlt, e1, g1, g3, g4, g5]
  case' inr.inr.inr.inr.inr.inl =>
   rw [show nodeS n = (n.pats.all q6 && n.kids.all k0) from by rw [nodeS_as, decide_eq_true (p := 0 ≤ n.n) (by omega)]; simp [g1, g4]] at hno hyes
   simp +contextual -dsimp (maxSteps := 2000000) only [↓SD, SU, SB, simprocAttr, map_len, hlt, e1, g1, g3, g4]
  case' inr.inr.inr.inr.inr.inr.inl =>
   rw [show nodeS n = (n.pats.all q6 && n.kids.all k0) from by rw [nodeS_as, decide_eq_true (p := 0 ≤ n.n) (by omega)]; simp [g1, g4]] at hno hyes
   simp +contextual -dsimp (maxSteps := 2000000) only [↓SD, SU, SB, simprocAttr, map_len, hlt, e1, g1, g3, g4]
  case' inr.inr.inr.inr.inr.inr.inr =>
   rw [show nodeS n = (n.pats.all q6 && n.kids.all k0) from by rw [nodeS_as, decide_eq_true (p := 0 ≤ n.n) (by omega)]; simp [g1, g4]] at hno hyes
   simp +contextual -dsimp (maxSteps := 2000000) only [↓SD, SU, SB, simprocAttr, map_len, hlt, e1, g1, g3, g4]
  all_goals
   intro v4
   try refine ⟨⟨by omega, by omega⟩, ?_⟩
   refine aLoop_of (X := Nat) (fun k => ⟨[(1, .obj [.sl (c.types.map av), .sl (c.nodes.map av)]), (4, .ptr 4 v4 0 0), (20, .sl (c.nodes.map av)), (21, .int .i64 c.nodes.length), (22, .int .i64 j), (58, .sl (n.pats.map av)), (59, .int .i64 n.pats.length), (60, .int .i64 k)], [(4, ⟨v4, false, 44, 6, [.agg [.int .i64 n.kind, .int .i64 n.pos, .int .i64 n.n, .str n.s, .sl (n.kids.map av), .sl (n.pats.map av)]]⟩)]⟩) (fun k => k ≤ n.pats.length ∧ (n.pats.take k).all q6 = true) (fun k => n.pats.length - k) 0 ⟨Nat.zero_le _, rfl⟩ (by simp +contextual -dsimp only [↓SD, SU, SB, simprocAttr, g1, g4]) (by simp +contextual -dsimp only [↓SD, SU, SB, simprocAttr, g1, g4]) ?_
   rintro k ⟨hk, hqk⟩
   by_cases hlt2 : k < n.pats.length
   ·have e2 := getD_map av n.pats k .top hlt2
    have hno2 : q6 n.pats[k] = false → shapeS c = false := fun h => hno (by rw [all_false' q6 hlt2 h]; rfl)
    have hyes2 : q6 n.pats[k] = true → (n.pats.take (k + 1)).all q6 = true := fun h => by
     rw [List.take_succ_eq_append_getElem hlt2, List.all_append, hqk, List.all_cons, h]; rfl
    generalize n.pats[k] = q at *
    rw [av_Pat] at e2
    by_cases h6 : (600 : Int) < q.nodes.length
    ·have hs := hno2 (decide_eq_false (by omega))
     simp +contextual -dsimp (maxSteps := 2000000) only [↓SD, SU, SB, simprocAttr, map_len, hlt2, e2, h6, hs]
    ·have hy := hyes2 (decide_eq_true (by omega))
     simp +contextual -dsimp (maxSteps := 2000000) only [↓SD, SU, SB, simprocAttr, map_len, hlt2, e2, h6]
     intro v6
     exact ⟨by omega, Goes.le ⟨k + 1, ⟨⟨hlt2, hy⟩, (by first | omega | (simp only; omega))⟩, rfl⟩ (by simp +contextual -dsimp only [↓SD, SU, SB, simprocAttr, Int.natCast_add]) (by simp +contextual -dsimp only [↓SD, SU, SB, simprocAttr])⟩
   ·obtain rfl : k = n.pats.length := by omega
    rw [List.take_length] at hqk
    rw [hqk, Bool.true_and] at hno hyes
    simp +contextual -dsimp (maxSteps := 2000000) only [↓SD, SU, SB, simprocAttr, map_len, Nat.lt_irrefl]
    refine aLoop_of (X := Nat) (fun k => ⟨[(1, .obj [.sl (c.types.map av), .sl (c.nodes.map av)]), (20, .sl (c.nodes.map av)), (21, .int .i64 c.nodes.length), (22, .int .i64 j), (70, .sl (n.kids.map av)), (71, .int .i64 n.kids.length), (72, .int .i64 k)], []⟩) (fun k => k ≤ n.kids.length ∧ (n.kids.take k).all k0 = true) (fun k => n.kids.length - k) 0 ⟨Nat.zero_le _, rfl⟩ (by simp +contextual -dsimp only [↓SD, SU, SB, simprocAttr]) trivial ?_
    rintro k ⟨hk, hqk2⟩
    by_cases hlt3 : k < n.kids.length
    ·have e2 := getD_map av n.kids k .top hlt3
     have hno2 : k0 n.kids[k] = false → shapeS c = false := fun h => hno (all_false' k0 hlt3 h)
     have hyes2 : k0 n.kids[k] = true → (n.kids.take (k + 1)).all k0 = true := fun h => by
      rw [List.take_succ_eq_append_getElem hlt3, List.all_append, hqk2, List.all_cons, h]; rfl
     generalize n.kids[k] = q at *
     by_cases h6 : q < 0
     ·have hs := hno2 (decide_eq_false (by omega))
      simp +contextual -dsimp (maxSteps := 2000000) only [↓SD, SU, SB, simprocAttr, map_len, hlt3, e2, h6, hs, av_int]
     ·have hy := hyes2 (decide_eq_true (by omega))
      simp +contextual -dsimp (maxSteps := 2000000) only [↓SD, SU, SB, simprocAttr, map_len, hlt3, e2, h6, av_int]
      exact ⟨by omega, Goes.le ⟨k + 1, ⟨⟨hlt3, hy⟩, (by first | omega | (simp only; omega))⟩, rfl⟩ (by simp +contextual -dsimp only [↓SD, SU, SB, simprocAttr, Int.natCast_add]) trivial⟩
    ·obtain rfl : k = n.kids.length := by omega
     rw [List.take_length] at hqk2
     have hy := hyes hqk2
     simp +contextual -dsimp (maxSteps := 2000000) only [↓SD, SU, SB, simprocAttr, map_len, Nat.lt_irrefl]
     exact ⟨by omega, Goes.le ⟨j + 1, ⟨⟨hlt, hy⟩, (by first | omega | (simp only; omega))⟩, rfl⟩ (by simp +contextual -dsimp only [↓SD, SU, SB, simprocAttr, Int.natCast_add]) trivial⟩
 ·obtain rfl : j = c.nodes.length := by omega
  rw [List.take_length] at hq
  have CE := l04NEnd_ok c hx (c.nodes.length + 1) 0 (by omega) (by omega)
  rw [av_Program] at CE
  simp +contextual -dsimp (maxSteps := 2000000) only [↓SD, SU, SB, simprocAttr, map_len, Nat.lt_irrefl]
  refine aCallK_of _ CE ?_
  simp +contextual -dsimp (maxSteps := 2000000) only [↓SD, SU, SB, simprocAttr, map_len]
  congr 1
  rw [shapeS, hq, decide_eq_true (p := 1 ≤ c.nodes.length) (by omega), decide_eq_true (p := c.nodes.length ≤ 600) (by omega)]
  simp only [Bool.true_and, Bool.and_true]
  unfold treeB
  cases ho : endF (nkids c.nodes) c.nodes.length (c.nodes.length + 1) 0 with
  | none =>
   rw [decide_eq_false (p := (none : Option Nat) = some c.nodes.length) (by simp)]
   exact decide_eq_false (by simp only [endI]; omega)
  | some m =>
   by_cases hm : m = c.nodes.length
   ·subst hm
    rw [decide_eq_true rfl]
    exact decide_eq_true rfl
   ·rw [decide_eq_false (p := some m = some c.nodes.length) (by simpa using hm)]
    exact decide_eq_false (by simp only [endI]; omega)
end Go.Proofs.YtjifpdcflankpaaGreat

namespace Go.Proofs.YtjifpdcflankpaaGreat
open Go.RowKit Go.Proofs.YtjifpdcflankpaaGreat.Av Go.Proofs.YtjifpdcflankpaaGreat.Ml
open Go.Proofs.YtjifpdcflankpaaGreat.Av.AVal (av)

set_option maxHeartbeats 4000000 in
theorem l15SamePat_ok (l m : List PNode) (hl : Bulk.bulk l ≤ 4294967296) (hm : Bulk.bulk m ≤ 4294967296) : CallsF Tryz.prog 89 [.agg [.sl (l.map av)], .agg [.sl (m.map av)]] (.bool (decide (l = m))) := by
 refine ir_spec_l15SamePat.F rfl (by simp; exact ⟨AvPure.agg (by simp; exact lav_clean l), AvPure.agg (by simp; exact lav_clean m)⟩) (AvPure.bool _) ?_
 have hll := bulk_length l
 have hml := bulk_length m
 by_cases hln : l.length = m.length
 ·have hln2 : (l.length : Int) = m.length := by omega
  simp +contextual -dsimp (maxSteps := 2000000) only [↓SD, SU, SB, simprocAttr, ir_spec_l15SamePat, map_len, hln]
  refine aLoop_of (X := Nat) (fun j => ⟨[(2, .obj [.sl (l.map av)]), (3, .obj [.sl (m.map av)]), (18, .int .i64 m.length), (19, .int .i64 j)], []⟩) (fun j => j ≤ l.length ∧ l.take j = m.take j) (fun j => l.length - j) 0 ⟨Nat.zero_le _, rfl⟩ (by simp +contextual -dsimp only [↓SD, SU, SB, simprocAttr]) trivial ?_
  rintro j ⟨hj, hq⟩
  by_cases hlt : j < l.length
  ·have hlt2 : j < m.length := by omega
   have e1 := getD_map av l j .top hlt
   have e2 := getD_map av m j .top hlt2
   have hst : l[j] = m[j] → l.take (j + 1) = m.take (j + 1) := fun e => by rw [List.take_succ_eq_append_getElem hlt, List.take_succ_eq_append_getElem hlt2, hq, e]
   have hno : ¬ (l[j] = m[j]) → decide (l = m) = false := fun e => decide_eq_false fun h => e (by simp only [h])
   have hb1 := (pnode_small hl j hlt).1
   have hb2 := (pnode_small hm j hlt2).1
   generalize l[j] = x at *
   generalize m[j] = y at *
   obtain ⟨a, b, d, ks⟩ := x
   obtain ⟨a', b', d', ks'⟩ := y
   simp only [PNode.mk.injEq] at hst hno hb1 hb2
   rw [av_PNode] at e1 e2
   simp only at e1 e2
   by_cases ha : a = a'
   ·subst ha
    by_cases hb : b = b'
    ·subst hb
     by_cases hd : d = d'
     ·subst hd
      by_cases hlks : ks.length = ks'.length
      ·have hlks2 : (ks.length : Int) = ks'.length := by omega
       simp +contextual -dsimp (maxSteps := 2000000) only [↓SD, SU, SB, simprocAttr, map_len, hlt, hlt2, e1, e2, hlks]
       intro v6 v7
       rw [← hlks]
       refine aLoop_of (X := Nat) (fun k => ⟨[(2, .obj [.sl (l.map av)]), (3, .obj [.sl (m.map av)]), (6, .ptr 6 v6 0 0), (7, .ptr 7 v7 0 0), (18, .int .i64 m.length), (19, .int .i64 j), (62, .int .i64 ks.length), (63, .int .i64 k)], [(6, ⟨v6, false, 94, 4, [.agg [.int .i64 a, .int .i64 b, .str d, .sl (ks.map av)]]⟩), (7, ⟨v7, false, 94, 4, [.agg [.int .i64 a, .int .i64 b, .str d, .sl (ks'.map av)]]⟩)]⟩) (fun k => k ≤ ks.length ∧ ks.take k = ks'.take k) (fun k => ks.length - k) 0 ⟨Nat.zero_le _, rfl⟩ (by simp +contextual -dsimp only [↓SD, SU, SB, simprocAttr]) (by simp +contextual -dsimp only [↓SD, SU, SB, simprocAttr]) ?_
       rintro k ⟨hk, hqk⟩
       by_cases hlk : k < ks.length
       ·have e3 := getD_map av ks k .top hlk
        have hlk2 : k < ks'.length := by omega
        have e4 := getD_map av ks' k .top hlk2
        have hst : ks[k] = ks'[k] → ks.take (k + 1) = ks'.take (k + 1) := fun e => by rw [List.take_succ_eq_append_getElem hlk, List.take_succ_eq_append_getElem hlk2, hqk, e]
        have hnk : ks[k] ≠ ks'[k] → ks ≠ ks' := fun e h => e (by simp only [h])
        generalize ks[k] = p at *
        generalize ks'[k] = q at *
        by_cases hpq : p = q
        ·subst hpq
         simp +contextual -dsimp (maxSteps := 2000000) only [↓SD, SU, SB, simprocAttr, map_len, hlk, hlk2, e3, e4, av_int]
         exact ⟨by omega, Goes.le ⟨k + 1, ⟨⟨hlk, hst rfl⟩, (by first | omega | (simp only; omega))⟩, rfl⟩ (by simp +contextual -dsimp only [↓SD, SU, SB, simprocAttr, Int.natCast_add]) (by simp +contextual -dsimp only [↓SD, SU, SB, simprocAttr])⟩
        ·have hs := hno (fun h => hnk hpq h.2.2.2)
         simp +contextual -dsimp (maxSteps := 2000000) only [↓SD, SU, SB, simprocAttr, map_len, hlk, hlk2, e3, e4, av_int, hpq, hs]
       ·obtain rfl : k = ks.length := by omega
        rw [List.take_length, hlks, List.take_length] at hqk
        subst hqk
        simp +contextual -dsimp (maxSteps := 2000000) only [↓SD, SU, SB, simprocAttr, map_len, Nat.lt_irrefl]
        exact ⟨by omega, Goes.le ⟨j + 1, ⟨⟨hlt, hst ⟨rfl, rfl, rfl, rfl⟩⟩, (by first | omega | (simp only; omega))⟩, rfl⟩ (by simp +contextual -dsimp only [↓SD, SU, SB, simprocAttr, Int.natCast_add]) trivial⟩
      ·have hs := hno (fun h => hlks (by rw [h.2.2.2]))
       have hlks2 : ¬ (ks.length : Int) = ks'.length := by omega
       simp +contextual -dsimp (maxSteps := 2000000) only [↓SD, SU, SB, simprocAttr, map_len, hlt, hlt2, e1, e2, hlks, hlks2, hs]
     ·have hs := hno (fun h => hd h.2.2.1)
      simp +contextual -dsimp (maxSteps := 2000000) only [↓SD, SU, SB, simprocAttr, map_len, hlt, hlt2, e1, e2, hd, hs]
    ·have hs := hno (fun h => hb h.2.1)
     simp +contextual -dsimp (maxSteps := 2000000) only [↓SD, SU, SB, simprocAttr, map_len, hlt, hlt2, e1, e2, hb, hs]
   ·have hs := hno (fun h => ha h.1)
    simp +contextual -dsimp (maxSteps := 2000000) only [↓SD, SU, SB, simprocAttr, map_len, hlt, hlt2, e1, e2, ha, hs]
  ·obtain rfl : j = l.length := by omega
   have hs : decide (l = m) = true := decide_eq_true (by rw [List.take_length, hln, List.take_length] at hq; exact hq)
   simp +contextual -dsimp (maxSteps := 2000000) only [↓SD, SU, SB, simprocAttr, map_len, hln, Nat.lt_irrefl, hs]
 ·have hs : decide (l = m) = false := decide_eq_false fun h => hln (by rw [h])
  have hln2 : ¬ (l.length : Int) = m.length := by omega
  simp +contextual -dsimp (maxSteps := 2000000) only [↓SD, SU, SB, simprocAttr, ir_spec_l15SamePat, map_len, hln, hln2, hs]
set_option maxHeartbeats 4000000 in
theorem l15Same2_ok (ts us : List TypeD) (l m : List Node) (P Q : ByteArray) (hP : CallsF Tryz.prog 90 [.agg [.sl (ts.map av), .sl [.agg [.int .i64 12, .int .i64 0, .int .i64 0, .str (bs []), .nils, .nils]]]] (.str P)) (hQ : CallsF Tryz.prog 90 [.agg [.sl (us.map av), .sl [.agg [.int .i64 12, .int .i64 0, .int .i64 0, .str (bs []), .nils, .nils]]]] (.str Q)) (hl : Bulk.bulk l ≤ 4294967296) (hm : Bulk.bulk m ≤ 4294967296) :
  CallsF Tryz.prog 41 [.agg [.sl (ts.map av), .sl (l.map av)], .agg [.sl (us.map av), .sl (m.map av)]] (.bool (decide (ts.length = us.length) && (decide (l = m) && decide (P = Q)))) := by
 refine ir_spec_l15Same.F rfl (by simp; exact ⟨AvPure.agg (by simp; exact ⟨lav_clean ts, lav_clean l⟩), AvPure.agg (by simp; exact ⟨lav_clean us, lav_clean m⟩)⟩) (AvPure.bool _) ?_
 have hll := bulk_length l
 have hml := bulk_length m
 by_cases hln0 : l.length = m.length
 case neg =>
  have hs : decide (l = m) = false := decide_eq_false fun h => hln0 (by rw [h])
  have hln2 : ¬ (l.length : Int) = m.length := by omega
  simp +contextual -dsimp (maxSteps := 2000000) only [↓SD, SU, SB, simprocAttr, ir_spec_l15Same, map_len, hln0, hln2, hs]
 by_cases hts : ts.length = us.length
 case neg =>
  have hs : decide (ts.length = us.length) = false := decide_eq_false hts
  have hts2 : ¬ (ts.length : Int) = us.length := by omega
  have hln2 : (l.length : Int) = m.length := by omega
  simp +contextual -dsimp (maxSteps := 2000000) only [↓SD, SU, SB, simprocAttr, ir_spec_l15Same, map_len, hln0, hts, hts2, hs]
 rw [decide_eq_true hts, Bool.true_and]
 have hR1 : ¬ (l = m) → (decide (l = m) && decide (P = Q)) = false := fun h => by rw [decide_eq_false h, Bool.false_and]
 have hR2 : l = m → (decide (l = m) && decide (P = Q)) = decide (P = Q) := fun h => by rw [decide_eq_true h, Bool.true_and]
 generalize (decide (l = m) && decide (P = Q)) = R at *
 by_cases hln : l.length = m.length
 ·have hln2 : (l.length : Int) = m.length := by omega
  simp +contextual -dsimp (maxSteps := 2000000) only [↓SD, SU, SB, simprocAttr, ir_spec_l15Same, map_len, hln, hts]
  refine aLoop_of (X := Nat) (fun j => ⟨[(2, .obj [.sl (ts.map av), .sl (l.map av)]), (3, .obj [.sl (us.map av), .sl (m.map av)]), (29, .int .i64 m.length), (30, .int .i64 j)], []⟩) (fun j => j ≤ l.length ∧ l.take j = m.take j) (fun j => l.length - j) 0 ⟨Nat.zero_le _, rfl⟩ (by simp +contextual -dsimp only [↓SD, SU, SB, simprocAttr]) trivial ?_
  rintro j ⟨hj, hq⟩
  by_cases hlt : j < l.length
  ·have hlt2 : j < m.length := by omega
   have e1 := getD_map av l j .top hlt
   have e2 := getD_map av m j .top hlt2
   have hst : l[j] = m[j] → l.take (j + 1) = m.take (j + 1) := fun e => by rw [List.take_succ_eq_append_getElem hlt, List.take_succ_eq_append_getElem hlt2, hq, e]
   have hno : ¬ (l[j] = m[j]) → R = false := fun e => hR1 fun h => e (by simp only [h])
   have hb1 := bulk_mem (List.getElem_mem hlt)
   have hb2 := bulk_mem (List.getElem_mem hlt2)
   generalize l[j] = x at *
   generalize m[j] = y at *
   obtain ⟨a, b, d, s, ks, ps⟩ := x
   obtain ⟨a', b', d', s', ks', ps'⟩ := y
   have hb3 : Bulk.bulk (⟨a, b, d, s, ks, ps⟩ : Node) = Bulk.bulk a + Bulk.bulk b + Bulk.bulk d + Bulk.bulk s + Bulk.bulk ks + Bulk.bulk ps + 1 := rfl
   have hb4 : Bulk.bulk (⟨a', b', d', s', ks', ps'⟩ : Node) = Bulk.bulk a' + Bulk.bulk b' + Bulk.bulk d' + Bulk.bulk s' + Bulk.bulk ks' + Bulk.bulk ps' + 1 := rfl
   have hb5 := bulk_length ks
   have hb6 := bulk_length ps
   simp only [Node.mk.injEq] at hst hno
   rw [av_Node] at e1 e2
   simp only at e1 e2
   by_cases ha : a = a'
   ·subst ha
    by_cases hb : b = b'
    ·subst hb
     by_cases hd : d = d'
     ·subst hd
      by_cases hss : s = s'
      ·subst hss
       by_cases hlks : ks.length = ks'.length
       ·have hlks2 : (ks.length : Int) = ks'.length := by omega
        by_cases hlps : ps.length = ps'.length
        ·have hlps2 : (ps.length : Int) = ps'.length := by omega
         simp +contextual -dsimp (maxSteps := 2000000) only [↓SD, SU, SB, simprocAttr, map_len, hlt, hlt2, e1, e2, hlks, hlps]
         intro v6 v7
         rw [← hlks]
         refine aLoop_of (X := Nat) (fun k => ⟨[(2, .obj [.sl (ts.map av), .sl (l.map av)]), (3, .obj [.sl (us.map av), .sl (m.map av)]), (6, .ptr 6 v6 0 0), (7, .ptr 7 v7 0 0), (29, .int .i64 m.length), (30, .int .i64 j), (89, .int .i64 ks.length), (90, .int .i64 k)], [(6, ⟨v6, false, 44, 6, [.agg [.int .i64 a, .int .i64 b, .int .i64 d, .str s, .sl (ks.map av), .sl (ps.map av)]]⟩), (7, ⟨v7, false, 44, 6, [.agg [.int .i64 a, .int .i64 b, .int .i64 d, .str s, .sl (ks'.map av), .sl (ps'.map av)]]⟩)]⟩) (fun k => k ≤ ks.length ∧ ks.take k = ks'.take k) (fun k => ks.length - k) 0 ⟨Nat.zero_le _, rfl⟩ (by simp +contextual -dsimp only [↓SD, SU, SB, simprocAttr]) (by simp +contextual -dsimp only [↓SD, SU, SB, simprocAttr]) ?_
         rintro k ⟨hk, hqk⟩
         by_cases hlk : k < ks.length
         ·have e3 := getD_map av ks k .top hlk
          have hlk2 : k < ks'.length := by omega
          have e4 := getD_map av ks' k .top hlk2
          have hst : ks[k] = ks'[k] → ks.take (k + 1) = ks'.take (k + 1) := fun e => by rw [List.take_succ_eq_append_getElem hlk, List.take_succ_eq_append_getElem hlk2, hqk, e]
          have hnk : ks[k] ≠ ks'[k] → ks ≠ ks' := fun e h => e (by simp only [h])
          generalize ks[k] = p at *
          generalize ks'[k] = q at *
          by_cases hpq : p = q
          ·subst hpq
           simp +contextual -dsimp (maxSteps := 2000000) only [↓SD, SU, SB, simprocAttr, map_len, hlk, hlk2, e3, e4, av_int]
           exact ⟨by omega, Goes.le ⟨k + 1, ⟨⟨hlk, hst rfl⟩, (by first | omega | (simp only; omega))⟩, rfl⟩ (by simp +contextual -dsimp only [↓SD, SU, SB, simprocAttr, Int.natCast_add]) (by simp +contextual -dsimp only [↓SD, SU, SB, simprocAttr])⟩
          ·have hs := hno (fun h => hnk hpq h.2.2.2.2.1)
           simp +contextual -dsimp (maxSteps := 2000000) only [↓SD, SU, SB, simprocAttr, map_len, hlk, hlk2, e3, e4, av_int, hpq, hs]
         ·obtain rfl : k = ks.length := by omega
          rw [List.take_length, hlks, List.take_length] at hqk
          subst hqk
          simp +contextual -dsimp (maxSteps := 2000000) only [↓SD, SU, SB, simprocAttr, map_len, Nat.lt_irrefl, hlps]
          rw [← hlps]
          refine aLoop_of (X := Nat) (fun k => ⟨[(2, .obj [.sl (ts.map av), .sl (l.map av)]), (3, .obj [.sl (us.map av), .sl (m.map av)]), (6, .ptr 6 v6 0 0), (7, .ptr 7 v7 0 0), (29, .int .i64 m.length), (30, .int .i64 j), (107, .int .i64 ps.length), (108, .int .i64 k)], [(6, ⟨v6, false, 44, 6, [.agg [.int .i64 a, .int .i64 b, .int .i64 d, .str s, .sl (ks.map av), .sl (ps.map av)]]⟩), (7, ⟨v7, false, 44, 6, [.agg [.int .i64 a, .int .i64 b, .int .i64 d, .str s, .sl (ks.map av), .sl (ps'.map av)]]⟩)]⟩) (fun k => k ≤ ps.length ∧ ps.take k = ps'.take k) (fun k => ps.length - k) 0 ⟨Nat.zero_le _, rfl⟩ (by simp +contextual -dsimp only [↓SD, SU, SB, simprocAttr]) (by simp +contextual -dsimp only [↓SD, SU, SB, simprocAttr]) ?_
          rintro k ⟨hk, hqk⟩
          by_cases hlk : k < ps.length
          ·have e3 := getD_map av ps k .top hlk
           have hlk2 : k < ps'.length := by omega
           have e4 := getD_map av ps' k .top hlk2
           have hst2 : ps[k] = ps'[k] → ps.take (k + 1) = ps'.take (k + 1) := fun e => by rw [List.take_succ_eq_append_getElem hlk, List.take_succ_eq_append_getElem hlk2, hqk, e]
           have hnk : ps[k] ≠ ps'[k] → ps ≠ ps' := fun e h => e (by simp only [h])
           have hq1 := bulk_mem (List.getElem_mem hlk)
           have hq2 := bulk_mem (List.getElem_mem hlk2)
           generalize ps[k] = p at *
           generalize ps'[k] = q at *
           obtain ⟨p⟩ := p
           obtain ⟨q⟩ := q
           have hq3 : Bulk.bulk (⟨p⟩ : Pat) = Bulk.bulk p + 1 := rfl
           have hq4 : Bulk.bulk (⟨q⟩ : Pat) = Bulk.bulk q + 1 := rfl
           have C := l15SamePat_ok p q (by omega) (by omega)
           rw [av_Pat] at e3 e4
           simp only at e3 e4
           by_cases hpq : p = q
           ·subst hpq
            rw [decide_eq_true (p := p = p) rfl] at C
            simp +contextual -dsimp (maxSteps := 2000000) only [↓SD, SU, SB, simprocAttr, map_len, hlk, hlk2, e3, e4, av_Pat]
            refine aCallK_of _ C ?_
            simp +contextual -dsimp (maxSteps := 2000000) only [↓SD, SU, SB, simprocAttr]
            exact ⟨by omega, Goes.le ⟨k + 1, ⟨⟨hlk, hst2 rfl⟩, (by first | omega | (simp only; omega))⟩, rfl⟩ (by simp +contextual -dsimp only [↓SD, SU, SB, simprocAttr, Int.natCast_add]) (by simp +contextual -dsimp only [↓SD, SU, SB, simprocAttr])⟩
           ·rw [decide_eq_false hpq] at C
            have hs := hno (fun h => hnk (fun e => hpq (Pat.mk.inj e)) h.2.2.2.2.2)
            simp +contextual -dsimp (maxSteps := 2000000) only [↓SD, SU, SB, simprocAttr, map_len, hlk, hlk2, e3, e4, av_Pat]
            refine aCallK_of _ C ?_
            simp +contextual -dsimp (maxSteps := 2000000) only [↓SD, SU, SB, simprocAttr, hs]
          ·obtain rfl : k = ps.length := by omega
           rw [List.take_length, hlps, List.take_length] at hqk
           subst hqk
           simp +contextual -dsimp (maxSteps := 2000000) only [↓SD, SU, SB, simprocAttr, map_len, Nat.lt_irrefl]
           exact ⟨by omega, Goes.le ⟨j + 1, ⟨⟨hlt, hst ⟨rfl, rfl, rfl, rfl, rfl, rfl⟩⟩, (by first | omega | (simp only; omega))⟩, rfl⟩ (by simp +contextual -dsimp only [↓SD, SU, SB, simprocAttr, Int.natCast_add]) trivial⟩
        ·have hs := hno (fun h => hlps (by rw [h.2.2.2.2.2]))
         have hlps2 : ¬ (ps.length : Int) = ps'.length := by omega
         simp +contextual -dsimp (maxSteps := 2000000) only [↓SD, SU, SB, simprocAttr, map_len, hlt, hlt2, e1, e2, hlks, hlps, hlps2, hs]
       ·have hs := hno (fun h => hlks (by rw [h.2.2.2.2.1]))
        have hlks2 : ¬ (ks.length : Int) = ks'.length := by omega
        simp +contextual -dsimp (maxSteps := 2000000) only [↓SD, SU, SB, simprocAttr, map_len, hlt, hlt2, e1, e2, hlks, hlks2, hs]
      ·have hs := hno (fun h => hss h.2.2.2.1)
       simp +contextual -dsimp (maxSteps := 2000000) only [↓SD, SU, SB, simprocAttr, map_len, hlt, hlt2, e1, e2, hss, hs]
     ·have hs := hno (fun h => hd h.2.2.1)
      simp +contextual -dsimp (maxSteps := 2000000) only [↓SD, SU, SB, simprocAttr, map_len, hlt, hlt2, e1, e2, hd, hs]
    ·have hs := hno (fun h => hb h.2.1)
     simp +contextual -dsimp (maxSteps := 2000000) only [↓SD, SU, SB, simprocAttr, map_len, hlt, hlt2, e1, e2, hb, hs]
   ·have hs := hno (fun h => ha h.1)
    simp +contextual -dsimp (maxSteps := 2000000) only [↓SD, SU, SB, simprocAttr, map_len, hlt, hlt2, e1, e2, ha, hs]
  ·obtain rfl : j = l.length := by omega
   have hs : R = decide (P = Q) := hR2 (by rw [List.take_length, hln, List.take_length] at hq; exact hq)
   simp +contextual -dsimp (maxSteps := 2000000) only [↓SD, SU, SB, simprocAttr, map_len, hln, Nat.lt_irrefl, hs]
   refine aCallK_of _ hP ?_
   simp +contextual -dsimp (maxSteps := 2000000) only [↓SD, SU, SB, simprocAttr]
   refine aCallK_of _ hQ ?_
   simp +contextual -dsimp (maxSteps := 2000000) only [↓SD, SU, SB, simprocAttr, hs]
 ·exact absurd hln0 hln
theorem l15Same_ok (ts : List TypeD) (l m : List Node) (P : ByteArray) (hP : CallsF Tryz.prog 90 [.agg [.sl (ts.map av), .sl [.agg [.int .i64 12, .int .i64 0, .int .i64 0, .str (bs []), .nils, .nils]]]] (.str P)) (hl : Bulk.bulk l ≤ 4294967296) (hm : Bulk.bulk m ≤ 4294967296) :
  CallsF Tryz.prog 41 [.agg [.sl (ts.map av), .sl (l.map av)], .agg [.sl (ts.map av), .sl (m.map av)]] (.bool (decide (l = m))) := by
 have h := l15Same2_ok ts ts l m P P hP hP hl hm
 rwa [decide_eq_true rfl, decide_eq_true rfl, Bool.true_and, Bool.and_true] at h
end Go.Proofs.YtjifpdcflankpaaGreat

namespace Go.Proofs.YtjifpdcflankpaaGreat
open Go.RowKit Go.Proofs.YtjifpdcflankpaaGreat.Av Go.Proofs.YtjifpdcflankpaaGreat.Ml
open Go.Proofs.YtjifpdcflankpaaGreat.Av.AVal (av)

def varS (i : Nat) : ByteArray := if 25 < i then bs [39, 122] ++ numS i else bs [39] ++ ⟨[UInt8.ofNat (97 + i)].toArray⟩
theorem varS_le (i : Nat) : (varS i).size ≤ 67 := by
 unfold varS
 have h := numS_le i
 have h1 : (bs [39, 122]).size = 2 := rfl
 have h2 : (bs [39]).size = 1 := rfl
 have h3 : (⟨[UInt8.ofNat (97 + i)].toArray⟩ : ByteArray).size = 1 := rfl
 split
 ·rw [ByteArray.size_append]; omega
 ·rw [ByteArray.size_append]; omega
theorem l04Var_ok (i : Nat) (hi : i ≤ 9999) : CallsF Tryz.prog 173 [.int .i64 i] (.str (varS i)) := by
 refine ir_spec_l04Var.F rfl (by simp; exact pint _) (AvPure.str _) ?_
 have hs := numS_le (i : Int)
 have h1 : (bs [39, 122]).size = 2 := rfl
 by_cases h : 25 < i
 ·have h' : (25 : Int) < i := by omega
  rw [varS, if_pos h]
  simp +contextual -dsimp (maxSteps := 2000000) only [↓SD, SU, SB, simprocAttr, ir_spec_l04Var, h']
  refine aCallK_of _ (specNumText_ok i (by omega)) ?_
  simp +contextual -dsimp (maxSteps := 2000000) only [↓SD, SU, SB, simprocAttr]
  unfold maxLen; omega
 ·have h' : ¬ (25 : Int) < i := by omega
  have e : (97 : Int) + i = ((97 + i : Nat) : Int) := by omega
  rw [varS, if_neg h]
  simp +contextual -dsimp (maxSteps := 2000000) only [↓SD, SU, SB, simprocAttr, ir_spec_l04Var, h', e]
  refine ⟨by omega, by omega, ?_⟩
  refine b2s_of _ _ [UInt8.ofNat (97 + i)] rfl (by rw [List.map_cons, List.map_nil, av_byte _ (by omega)]) ?_
  simp +contextual -dsimp (maxSteps := 2000000) only [↓SD, SU, SB, simprocAttr]
  have h5 : (⟨[UInt8.ofNat (97 + i)].toArray⟩ : ByteArray).size = 1 := rfl
  have h2 : (bs [39]).size = 1 := rfl
  unfold maxLen; omega
def tyS (l : List TyItem) : Nat → Nat → ByteArray
 | 0, _ => bs []
 | f + 1, p => match l[p]? with
  | none => bs []
  | some x =>
   if x.name = bs [] then varS x.var.toNat
   else if x.arity = 0 then x.name
   else if x.arity = 1 then bs [40] ++ tyS l f (p + 1) ++ bs [41, 32] ++ x.name
   else if x.name = bs [45, 62] ∨ x.name = bs [42] then bs [40] ++ tyS l f (p + 1) ++ bs [32] ++ x.name ++ bs [32] ++ tyS l f ((endT (arL l) f (p + 1)).getD 0) ++ bs [41]
   else bs [40] ++ tyS l f (p + 1) ++ bs [44, 32] ++ tyS l f ((endT (arL l) f (p + 1)).getD 0) ++ bs [41, 32] ++ x.name
def preW (l : List TyItem) (k : Nat) : Nat := ((l.take k).map fun x => 80 + x.name.size).sum
theorem preW_step {l : List TyItem} {k : Nat} (h : k < l.length) : preW l (k + 1) = preW l k + (80 + l[k].name.size) := by
 unfold preW
 rw [List.take_succ_eq_append_getElem h, List.map_append, List.sum_append]; rfl
theorem tyS_le (l : List TyItem) : ∀ (f p e : Nat), l.all itemB = true → endT (arL l) f p = some e → p < l.length ∧ p < e ∧ e ≤ l.length ∧ (tyS l f p).size + preW l p ≤ preW l e
 | 0, p, e, _, h => by cases h
 | f + 1, p, e, hi, h => by
  have hl : (arL l).length = l.length := by simp [arL]
  rw [endT] at h
  split at h
  case isFalse => cases h
  rename_i hp
  rw [hl] at hp
  have hg : l[p]? = some l[p] := List.getElem?_eq_getElem hp
  have hst := preW_step hp
  have har := itemB_ar (List.all_eq_true.1 hi l[p] (List.getElem_mem hp))
  have hag : (arL l).getD p 0 = l[p].arity.toNat := by simp [arL, List.getD_eq_getElem?_getD, hp]
  rw [hag] at h
  rw [tyS, hg]
  have ih := fun q e => tyS_le l f q e hi
  generalize l[p] = x at *
  dsimp only
  have hv := varS_le x.var.toNat
  have s1 : (bs [40]).size = 1 := rfl
  have s2 : (bs [41, 32]).size = 2 := rfl
  have s3 : (bs [32]).size = 1 := rfl
  have s4 : (bs [41]).size = 1 := rfl
  have s5 : (bs [44, 32]).size = 2 := rfl
  have hcase : x.arity = 0 ∨ x.arity = 1 ∨ x.arity = 2 := by omega
  rcases hcase with ha | ha | ha
  ·rw [ha] at h ⊢
   obtain rfl : p + 1 = e := by simpa [iterT] using h
   refine ⟨hp, by omega, by omega, ?_⟩
   split
   ·omega
   ·rw [if_pos rfl]; omega
  ·rw [ha] at h ⊢
   have h1 : endT (arL l) f (p + 1) = some e := by
    have : iterT (endT (arL l) f) 1 (p + 1) = some e := h
    rw [iterT] at this
    cases hx : endT (arL l) f (p + 1) with
    | none => rw [hx] at this; cases this
    | some q => rw [hx] at this; exact this
   have g := ih (p + 1) e h1
   refine ⟨hp, by omega, by omega, ?_⟩
   split
   ·omega
   ·rw [if_neg (by decide), if_pos rfl]
    simp only [ByteArray.size_append]
    omega
  ·rw [ha] at h ⊢
   obtain ⟨q, h1, h2⟩ : ∃ q, endT (arL l) f (p + 1) = some q ∧ endT (arL l) f q = some e := by
    have : iterT (endT (arL l) f) 2 (p + 1) = some e := h
    rw [iterT] at this
    cases hx : endT (arL l) f (p + 1) with
    | none => rw [hx] at this; cases this
    | some q =>
     rw [hx, Option.bind_some, iterT] at this
     cases hy : endT (arL l) f q with
     | none => rw [hy] at this; cases this
     | some z => rw [hy] at this; exact ⟨q, rfl, hy.trans this⟩
   have g1 := ih (p + 1) q h1
   have g2 := ih q e h2
   rw [h1, Option.getD_some]
   refine ⟨hp, by omega, by omega, ?_⟩
   split
   ·omega
   ·rw [if_neg (by decide), if_neg (by decide)]
    split
    all_goals
     simp only [ByteArray.size_append]
     omega
theorem preW_le (l : List TyItem) (k : Nat) : preW l k ≤ 81 * Bulk.bulk l := by
 have h1 : ∀ m : List TyItem, (m.map fun x => 80 + x.name.size).sum ≤ 81 * (m.map Bulk.bulk).sum := by
  intro m
  induction m with
  | nil => exact Nat.zero_le _
  | cons x m ih =>
   have h2 : Bulk.bulk x = Bulk.bulk x.var + Bulk.bulk x.name + Bulk.bulk x.arity + 1 := rfl
   have h3 : Bulk.bulk x.name = x.name.size + 1 := rfl
   simp only [List.map_cons, List.sum_cons]
   omega
 have h2 : ((l.take k).map Bulk.bulk).sum ≤ (l.map Bulk.bulk).sum := by
  have e := congrArg (fun m => (m.map Bulk.bulk).sum) (List.take_append_drop k l)
  simp only [List.map_append, List.sum_append] at e
  omega
 have h3 := h1 (l.take k)
 have h4 : Bulk.bulk l = (l.map Bulk.bulk).sum + 1 := bulk_sumL l
 unfold preW
 omega
set_option maxHeartbeats 4000000 in
theorem l04Ty_ok (l : List TyItem) (hx : Bulk.bulk l ≤ 4294967296) (hi : l.all itemB = true) : ∀ (f p e : Nat), l.length - p < f → endT (arL l) f p = some e → CallsF Tryz.prog 145 [.agg [.sl (l.map av)], .int .i64 p] (.str (tyS l f p))
 | 0, p, e, _, h => by cases h
 | f + 1, p, e, hf, h => by
  have hle := tyS_le l (f + 1) p e hi h
  have hpe := preW_le l e
  have hll := bulk_length l
  refine ir_spec_l04Ty.F rfl (by simp; exact ⟨AvPure.agg (by simp; exact lav_clean l), pint _⟩) (AvPure.str _) ?_
  have hl : (arL l).length = l.length := by simp [arL]
  rw [endT] at h
  split at h
  case isFalse => cases h
  rename_i hp
  rw [hl] at hp
  have hg : l[p]? = some l[p] := List.getElem?_eq_getElem hp
  have e1 := getD_map av l p .top hp
  have hit := List.all_eq_true.1 hi l[p] (List.getElem_mem hp)
  have har := itemB_ar hit
  have hag : (arL l).getD p 0 = l[p].arity.toNat := by simp [arL, List.getD_eq_getElem?_getD, hp]
  rw [hag] at h
  have hsz := hle.2.2.2
  rw [tyS, hg] at hsz ⊢
  have CT := fun q e => l04Ty_ok l hx hi f q e
  have CE := l04End_ok l hx hi f (p + 1) (by omega) (by omega)
  have hp1 : (p : Int) + 1 = ((p + 1 : Nat) : Int) := by omega
  generalize l[p] = x at *
  obtain ⟨vr, nm, ar⟩ := x
  dsimp only at hsz h hit har e1 ⊢
  rw [av_TyItem] at e1
  by_cases hn : nm = bs []
  ·subst hn
   rw [if_pos rfl]
   unfold itemB at hit
   rw [if_pos rfl] at hit
   simp only [Bool.and_eq_true, decide_eq_true_eq] at hit
   have CV := l04Var_ok vr.toNat (by omega)
   rw [show ((vr.toNat : Nat) : Int) = vr by omega] at CV
   simp +contextual -dsimp (maxSteps := 2000000) only [↓SD, SU, SB, simprocAttr, ir_spec_l04Ty, map_len, hp, e1]
   intro v5
   refine aCallK_of _ CV ?_
   simp +contextual -dsimp (maxSteps := 2000000) only [↓SD, SU, SB, simprocAttr]
  rw [if_neg hn] at hsz ⊢
  have hcase : ar = 0 ∨ ar = 1 ∨ ar = 2 := by omega
  rcases hcase with rfl | rfl | rfl
  ·rw [if_pos rfl]
   simp +contextual -dsimp (maxSteps := 2000000) only [↓SD, SU, SB, simprocAttr, ir_spec_l04Ty, map_len, hp, e1, hn]
  ·have h1 : endT (arL l) f (p + 1) = some e := by
    have : iterT (endT (arL l) f) 1 (p + 1) = some e := h
    rw [iterT] at this
    cases hx : endT (arL l) f (p + 1) with
    | none => rw [hx] at this; cases this
    | some q => rw [hx] at this; exact this
   have C1 := CT (p + 1) e (by omega) h1
   rw [if_neg (by decide), if_pos rfl] at hsz ⊢
   generalize tyS l f (p + 1) = A at *
   simp only [ByteArray.size_append] at hsz
   simp +contextual -dsimp (maxSteps := 2000000) only [↓SD, SU, SB, simprocAttr, ir_spec_l04Ty, map_len, hp, e1, hn, hp1]
   intro v5
   refine ⟨by omega, ?_⟩
   refine aCallK_of _ C1 ?_
   simp +contextual -dsimp (maxSteps := 2000000) only [↓SD, SU, SB, simprocAttr, ByteArray.size_append]
   unfold maxLen; omega
  ·obtain ⟨q, h1, h2⟩ : ∃ q, endT (arL l) f (p + 1) = some q ∧ endT (arL l) f q = some e := by
    have : iterT (endT (arL l) f) 2 (p + 1) = some e := h
    rw [iterT] at this
    cases hx : endT (arL l) f (p + 1) with
    | none => rw [hx] at this; cases this
    | some q =>
     rw [hx, Option.bind_some, iterT] at this
     cases hy : endT (arL l) f q with
     | none => rw [hy] at this; cases this
     | some z => rw [hy] at this; exact ⟨q, rfl, hy.trans this⟩
   have hq := endT_le (arL l) f (p + 1) q h1
   have C1 := CT (p + 1) q (by omega) h1
   have C2 := CT q e (by omega) h2
   rw [h1] at CE
   rw [if_neg (by decide), if_neg (by decide), h1, Option.getD_some] at hsz ⊢
   generalize tyS l f (p + 1) = A at *
   generalize tyS l f q = B at *
   by_cases ho : nm = bs [45, 62] ∨ nm = bs [42]
   ·rw [if_pos ho] at hsz ⊢
    simp only [ByteArray.size_append] at hsz
    rcases ho with hO | hO
    ·simp +contextual -dsimp (maxSteps := 2000000) only [↓SD, SU, SB, simprocAttr, ir_spec_l04Ty, map_len, hp, e1, hn, hp1]
     intro v5
     refine ⟨by omega, ?_⟩
     refine aCallK_of _ C1 ?_
     simp +contextual -dsimp (maxSteps := 2000000) only [↓SD, SU, SB, simprocAttr, hp1]
     refine ⟨by omega, ?_⟩
     refine aCallK_of _ CE ?_
     simp +contextual -dsimp (maxSteps := 2000000) only [↓SD, SU, SB, simprocAttr, endI]
     refine aCallK_of _ C2 ?_
     simp +contextual -dsimp (maxSteps := 2000000) only [↓SD, SU, SB, simprocAttr, hO, ByteArray.size_append]
     rw [hO] at hsz
     unfold maxLen; omega
    ·have hne : (bs [42] = bs [45, 62]) = False := eq_false (by decide)
     simp +contextual -dsimp (maxSteps := 2000000) only [↓SD, SU, SB, simprocAttr, ir_spec_l04Ty, map_len, hp, e1, hn, hp1]
     intro v5
     refine ⟨by omega, ?_⟩
     refine aCallK_of _ C1 ?_
     simp +contextual -dsimp (maxSteps := 2000000) only [↓SD, SU, SB, simprocAttr, hp1]
     refine ⟨by omega, ?_⟩
     refine aCallK_of _ CE ?_
     simp +contextual -dsimp (maxSteps := 2000000) only [↓SD, SU, SB, simprocAttr, endI]
     refine aCallK_of _ C2 ?_
     simp +contextual -dsimp (maxSteps := 2000000) only [↓SD, SU, SB, simprocAttr, hne, hO, ByteArray.size_append]
     rw [hO] at hsz
     unfold maxLen; omega
   ·rw [if_neg ho] at hsz ⊢
    simp only [ByteArray.size_append] at hsz
    have hne : (nm = bs [45, 62]) = False := eq_false fun h => ho (.inl h)
    have hne2 : (nm = bs [42]) = False := eq_false fun h => ho (.inr h)
    simp +contextual -dsimp (maxSteps := 2000000) only [↓SD, SU, SB, simprocAttr, ir_spec_l04Ty, map_len, hp, e1, hn, hp1]
    intro v5
    refine ⟨by omega, ?_⟩
    refine aCallK_of _ C1 ?_
    simp +contextual -dsimp (maxSteps := 2000000) only [↓SD, SU, SB, simprocAttr, hp1]
    refine ⟨by omega, ?_⟩
    refine aCallK_of _ CE ?_
    simp +contextual -dsimp (maxSteps := 2000000) only [↓SD, SU, SB, simprocAttr, endI]
    refine aCallK_of _ C2 ?_
    simp +contextual -dsimp (maxSteps := 2000000) only [↓SD, SU, SB, simprocAttr, hne, hne2, ByteArray.size_append]
    unfold maxLen; omega
end Go.Proofs.YtjifpdcflankpaaGreat

namespace Go.Proofs.YtjifpdcflankpaaGreat
open Go.RowKit Go.Proofs.YtjifpdcflankpaaGreat.Av Go.Proofs.YtjifpdcflankpaaGreat.Ml
open Go.Proofs.YtjifpdcflankpaaGreat.Av.AVal (av)

def conStep (s : ByteArray) (i : Nat) (c : Con) : ByteArray :=
 let a := (if 0 < i then s ++ bs [32, 124, 32] else s) ++ c.name
 if c.has = true then a ++ bs [32, 111, 102, 32] ++ tyS c.arg.items (c.arg.items.length + 1) 0 else a
def consF : ByteArray → Nat → List Con → ByteArray
 | s, _, [] => s
 | s, i, c :: r => consF (conStep s i c) (i + 1) r
def parS (m : Int) : ByteArray := if m = 0 then bs [] else if m = 1 then bs [39, 97, 32] else bs [40, 39, 97, 44, 32, 39, 98, 41, 32]
def typeStep (s : ByteArray) (t : TypeD) : ByteArray := consF (s ++ bs [116, 121, 112, 101, 32] ++ parS t.params ++ t.name ++ bs [32, 61, 32]) 0 t.cons ++ bs [59, 32]
def typesF (s : ByteArray) (l : List TypeD) : ByteArray := l.foldl typeStep s
def unitP (ts : List TypeD) : Program := ⟨ts, [⟨12, 0, 0, bs [], [], []⟩]⟩
def unitS (ts : List TypeD) : ByteArray := if progB (unitP ts) = true then typesF (bs []) ts ++ bs [40, 41] else bs []
theorem tyB_facts {l : List TyItem} (h : tyB l = true) : l.all itemB = true ∧ endT (arL l) (l.length + 1) 0 = some l.length := by
 unfold tyB tyItemsB at h
 simp only [Bool.and_eq_true, decide_eq_true_eq] at h
 refine ⟨h.2.1, ?_⟩
 have hl : (arL l).length = l.length := by simp [arL]
 rw [endT_skip _ _ _ (by omega), List.drop_zero, h.2.2, hl]
 rfl
theorem conOkB_ty {c : Con} {m : Int} (h : conOkB c m = true) (hh : c.has = true) : tyB c.arg.items = true := by
 unfold conOkB at h
 rw [if_pos hh] at h
 simp only [Bool.and_eq_true] at h
 exact h.1.2
theorem conStep_le {c : Con} {m : Int} (h : conOkB c m = true) (s : ByteArray) (i : Nat) : (conStep s i c).size ≤ s.size + 100 * Bulk.bulk c ∧ (c.has = true → (tyS c.arg.items (c.arg.items.length + 1) 0).size ≤ 81 * Bulk.bulk c) := by
 have h2 : Bulk.bulk c = Bulk.bulk c.name + Bulk.bulk c.has + Bulk.bulk c.arg + 1 := rfl
 have h3 : Bulk.bulk c.arg = Bulk.bulk c.arg.items + 1 := rfl
 have h4 : Bulk.bulk c.name = c.name.size + 1 := rfl
 have h5 : (bs [32, 124, 32]).size = 3 := rfl
 have h6 : (bs [32, 111, 102, 32]).size = 4 := rfl
 have h7 : (if 0 < i then s ++ bs [32, 124, 32] else s).size ≤ s.size + 3 := by
  split
  ·rw [ByteArray.size_append]; omega
  ·omega
 have ht : c.has = true → (tyS c.arg.items (c.arg.items.length + 1) 0).size ≤ 81 * Bulk.bulk c.arg.items := fun hh => by
  obtain ⟨g1, g2⟩ := tyB_facts (conOkB_ty h hh)
  have g3 := (tyS_le _ _ _ _ g1 g2).2.2.2
  have g4 := preW_le c.arg.items c.arg.items.length
  omega
 refine ⟨?_, fun hh => by have := ht hh; omega⟩
 unfold conStep
 dsimp only
 split
 ·rename_i hh
  have := ht hh
  simp only [ByteArray.size_append]
  omega
 ·simp only [ByteArray.size_append]
  omega
theorem bsum_drop {α : Type} [Bulk α] (l : List α) (i : Nat) (h : i < l.length) : ((l.drop i).map Bulk.bulk).sum = Bulk.bulk l[i] + ((l.drop (i + 1)).map Bulk.bulk).sum := by
 rw [List.drop_eq_getElem_cons h, List.map_cons, List.sum_cons]
theorem consF_le {m : Int} : ∀ (l : List Con) (s : ByteArray) (i : Nat), (l.all fun c => conOkB c m) = true → (consF s i l).size ≤ s.size + 100 * (l.map Bulk.bulk).sum
 | [], s, i, _ => Nat.le_add_right _ _
 | c :: r, s, i, h => by
  rw [List.all_cons, Bool.and_eq_true] at h
  have h1 := (conStep_le h.1 s i).1
  have h2 := consF_le r (conStep s i c) (i + 1) h.2
  rw [consF, List.map_cons, List.sum_cons]
  omega
theorem parS_le (m : Int) : (parS m).size ≤ 9 := by
 unfold parS
 split
 ·decide
 ·split <;> decide
theorem typeStep_le {t : TypeD} (h : typeB t = true) (s : ByteArray) : (typeStep s t).size ≤ s.size + 200 * Bulk.bulk t := by
 unfold typeB at h
 rw [Bool.and_eq_true] at h
 have h1 := consF_le t.cons (s ++ bs [116, 121, 112, 101, 32] ++ parS t.params ++ t.name ++ bs [32, 61, 32]) 0 h.2
 have h2 : Bulk.bulk t = Bulk.bulk t.name + Bulk.bulk t.params + Bulk.bulk t.cons + 1 := rfl
 have h3 : Bulk.bulk t.name = t.name.size + 1 := rfl
 have h4 := bulk_sumL t.cons
 have h5 := parS_le t.params
 have g1 : (bs [116, 121, 112, 101, 32]).size = 5 := rfl
 have g2 : (bs [32, 61, 32]).size = 3 := rfl
 have g3 : (bs [59, 32]).size = 2 := rfl
 unfold typeStep
 simp only [ByteArray.size_append] at h1 ⊢
 omega
theorem av_unit (ts : List TypeD) : av (unitP ts) = .agg [.sl (ts.map av), .sl [.agg [.int .i64 12, .int .i64 0, .int .i64 0, .str (bs []), .sl [], .sl []]]] := by
 rw [av_Program, unitP]; simp only [List.map_cons, List.map_nil, av_Node]
theorem vr_unit {S : Nat → Prop} {w : World} {v : Value} {T : List AV} {a b c d : AV} (h : VR S w mu0 v (.agg [.sl T, .sl [.agg [a, b, c, d, .nils, .nils]]])) : VR S w mu0 v (.agg [.sl T, .sl [.agg [a, b, c, d, .sl [], .sl []]]]) := by
 refine Av.VR.aggSet (off := 1) (y := .sl [.agg [a, b, c, d, .sl [], .sl []]]) h rfl (fun x u hx hu => ?_)
 obtain rfl : AV.sl [.agg [a, b, c, d, .nils, .nils]] = x := by simpa using hx
 cases hu with
 | sl bb o cap esz vs es hS hl hm hz hc h' =>
  have hz0 := hz _ (List.mem_singleton.2 rfl)
  refine (show VR S w mu0 (.slice (some ⟨bb, o, none⟩) [AV.agg [a, b, c, d, .sl [], .sl []]].length cap) (.sl [.agg [a, b, c, d, .sl [], .sl []]]) from .sl bb o cap esz vs _ hS hl hm ?_ hc ?_)
  ·intro e he
   rw [List.mem_singleton.1 he]
   refine ⟨hz0.1, fun x hx => ?_⟩
   have hx2 : x ∈ [a, b, c, d, .sl [], .sl []] := hx
   simp only [List.mem_cons, List.not_mem_nil, or_false] at hx2
   have h3 := fun y (hy : y ∈ [a, b, c, d, AV.nils, AV.nils]) => hz0.2 y hy
   rcases hx2 with rfl | rfl | rfl | rfl | rfl | rfl
   ·exact h3 _ (by simp)
   ·exact h3 _ (by simp)
   ·exact h3 _ (by simp)
   ·exact h3 _ (by simp)
   ·rfl
   ·rfl
  ·intro i j e x he hx
   cases i with
   | succ i => simp at he
   | zero =>
    obtain rfl : AV.agg [a, b, c, d, .sl [], .sl []] = e := by simpa using he
    have h4 := fun y (hy : [a, b, c, d, AV.nils, AV.nils][j]? = some y) => h' 0 j _ y rfl hy
    have hx2 : [a, b, c, d, AV.sl [], AV.sl []][j]? = some x := hx
    match j, hx2 with
    | 0, hx2 => exact h4 x hx2
    | 1, hx2 => exact h4 x hx2
    | 2, hx2 => exact h4 x hx2
    | 3, hx2 => exact h4 x hx2
    | 4, hx2 =>
     cases hx2
     have := h4 .nils rfl
     generalize vs 0 4 = z at this
     cases this; exact .sl0 none 0 (Nat.zero_le _)
    | 5, hx2 =>
     cases hx2
     have := h4 .nils rfl
     generalize vs 0 5 = z at this
     cases this; exact .sl0 none 0 (Nat.zero_le _)
    | n + 6, hx2 => simp at hx2
set_option maxHeartbeats 4000000 in
theorem exprUnit_ok (ts : List TypeD) : CallsF Tryz.prog 146 [.agg [.sl (ts.map av), .sl [.agg [.int .i64 12, .int .i64 0, .int .i64 0, .str (bs []), .sl [], .sl []]]], .int .i64 0] (.str (bs [40, 41])) := by
 refine ir_spec_l04Expr.F rfl (by simp; exact ⟨by rw [← av_unit]; exact AVal.clean _, pint _⟩) (AvPure.str _) ?_
 simp +contextual -dsimp (maxSteps := 2000000) only [↓SD, SU, SB, simprocAttr, ir_spec_l04Expr]
 intro v5 v20
 refine aLoop_of (X := Unit) (fun x => ⟨[(2, .obj [.sl (ts.map av), .sl [.agg [.int .i64 12, .int .i64 0, .int .i64 0, .str (bs []), .sl [], .sl []]]]), (5, .ptr 5 v5 0 0), (6, .row 20 v20 0), (22, .sl []), (23, .int .i64 0), (24, .int .i64 0)], [(5, ⟨v5, false, 44, 6, [.agg [.int .i64 12, .int .i64 0, .int .i64 0, .str (bs []), .sl [], .sl []]]⟩), (20, ⟨v20, false, 9, 1, []⟩)]⟩) (fun x => True) (fun x => 0) () trivial (by simp +contextual -dsimp only [↓SD, SU, SB, simprocAttr]) (by simp +contextual -dsimp only [↓SD, SU, SB, simprocAttr]) ?_
 intro _ _
 simp +contextual -dsimp (maxSteps := 2000000) only [↓SD, SU, SB, simprocAttr]
theorem progB_ty {p : Program} (h : progB p = true) : p.types.all typeB = true := by
 rw [progB_as, shapeP_as] at h
 simp only [Bool.and_eq_true] at h
 exact h.1.2
set_option maxHeartbeats 4000000 in
theorem printUnit_ok (ts : List TypeD) (hx : Bulk.bulk (unitP ts) ≤ 4294967296) : CallsF Tryz.prog 90 [.agg [.sl (ts.map av), .sl [.agg [.int .i64 12, .int .i64 0, .int .i64 0, .str (bs []), .sl [], .sl []]]]] (.str (unitS ts)) := by
 have CO := specProgramOk_ok (unitP ts) hx
 refine ir_spec_PrintProgram.F rfl (by simp; rw [← av_unit]; exact AVal.clean _) (AvPure.str _) ?_
 have hxb : Bulk.bulk (unitP ts) = Bulk.bulk ts + Bulk.bulk (unitP ts).nodes + 1 := rfl
 have htl := bulk_length ts
 have hts := bulk_sumL ts
 rw [av_unit] at CO
 cases hb : progB (unitP ts) with
 | false =>
  rw [hb] at CO
  rw [unitS, if_neg (by rw [hb]; simp)]
  simp +contextual -dsimp (maxSteps := 2000000) only [↓SD, SU, SB, simprocAttr, ir_spec_PrintProgram]
  refine aCallK_of _ CO ?_
  simp +contextual -dsimp (maxSteps := 2000000) only [↓SD, SU, SB, simprocAttr]
 | true =>
  rw [hb] at CO
  rw [unitS, if_pos hb]
  have hty := progB_ty hb
  have hty2 : ts.all typeB = true := hty
  simp +contextual -dsimp (maxSteps := 2000000) only [↓SD, SU, SB, simprocAttr, ir_spec_PrintProgram]
  refine aCallK_of _ CO ?_
  simp +contextual -dsimp (maxSteps := 2000000) only [↓SD, SU, SB, simprocAttr, map_len]
  refine aLoop_of (X := Nat × ByteArray) (fun x => ⟨[(1, .obj [.sl (ts.map av), .sl [.agg [.int .i64 12, .int .i64 0, .int .i64 0, .str (bs []), .sl [], .sl []]]]), (3, .str x.2), (12, .sl (ts.map av)), (13, .int .i64 ts.length), (14, .int .i64 x.1)], []⟩) (fun x => x.1 ≤ ts.length ∧ typesF x.2 (ts.drop x.1) = typesF (bs []) ts ∧ x.2.size + 200 * ((ts.drop x.1).map Bulk.bulk).sum ≤ 200 * (ts.map Bulk.bulk).sum) (fun x => ts.length - x.1) (0, bs []) ⟨Nat.zero_le _, rfl, by dsimp only; rw [List.drop_zero]; have : (bs []).size = 0 := rfl; omega⟩ (by simp +contextual -dsimp only [↓SD, SU, SB, simprocAttr]) trivial ?_
  rintro ⟨j, s⟩ ⟨hj, hq, hs⟩
  dsimp only at hj hq hs ⊢
  by_cases hlt : j < ts.length
  ·have e1 := getD_map av ts j .top hlt
   have hbd := bsum_drop ts j hlt
   have htm := bulk_mem (List.getElem_mem hlt)
   have hjb := List.all_eq_true.1 hty2 ts[j] (List.getElem_mem hlt)
   have hst := typeStep_le hjb s
   have hq2 : typesF (typeStep s ts[j]) (ts.drop (j + 1)) = typesF (bs []) ts := by rw [← hq, List.drop_eq_getElem_cons hlt]; rfl
   generalize ts[j] = t at *
   obtain ⟨tn, tp, cs⟩ := t
   rw [av_TypeD] at e1
   dsimp only at e1
   have hjb2 := hjb
   unfold typeB at hjb2
   simp only [Bool.and_eq_true, decide_eq_true_eq] at hjb2
   obtain ⟨⟨⟨_, hpar⟩, _⟩, hcs⟩ := hjb2
   have t2 : Bulk.bulk (⟨tn, tp, cs⟩ : TypeD) = Bulk.bulk tn + Bulk.bulk tp + Bulk.bulk cs + 1 := rfl
   have t3 : Bulk.bulk tn = tn.size + 1 := rfl
   have t4 := bulk_sumL cs
   have t5 := parS_le tp
   have t6 := bulk_length cs
   have g1 : (bs [116, 121, 112, 101, 32]).size = 5 := rfl
   have g2 : (bs [32, 61, 32]).size = 3 := rfl
   have g3 : (bs [59, 32]).size = 2 := rfl
   obtain ⟨s0, hs0⟩ : ∃ s0, s0 = s ++ bs [116, 121, 112, 101, 32] ++ parS tp ++ tn ++ bs [32, 61, 32] := ⟨_, rfl⟩
   have hs0s := congrArg ByteArray.size hs0
   simp only [ByteArray.size_append] at hs0s
   have hfin : typeStep s ⟨tn, tp, cs⟩ = consF s0 0 cs ++ bs [59, 32] := by rw [hs0]; rfl
   rw [hfin] at hst hq2
   clear hfin
   rw [ByteArray.size_append] at hst
   have hpc : tp = 0 ∨ tp = 1 ∨ tp = 2 := by omega
   have hP0 : parS 0 = bs [] := rfl
   have hP1 : parS 1 = bs [39, 97, 32] := rfl
   have hP2 : parS 2 = bs [40, 39, 97, 44, 32, 39, 98, 41, 32] := rfl
   rcases hpc with rfl | rfl | rfl
   all_goals
    simp only [hP0, hP1, hP2] at hs0 hs0s t5
    simp +contextual -dsimp (maxSteps := 2000000) only [↓SD, SU, SB, simprocAttr, map_len, hlt, e1]
    intro v5
    refine ⟨by unfold maxLen; omega, by simp only [ByteArray.size_append]; unfold maxLen; omega, by simp only [ByteArray.size_append]; unfold maxLen; omega, by simp only [ByteArray.size_append]; unfold maxLen; omega, ?_⟩
    rw [← hs0]
    clear hP0 hP1 hP2 hs0
    refine aLoop_of (X := Nat × ByteArray) (fun x => ⟨[(1, .obj [.sl (ts.map av), .sl [.agg [.int .i64 12, .int .i64 0, .int .i64 0, .str (bs []), .sl [], .sl []]]]), (3, .str x.2), (12, .sl (ts.map av)), (13, .int .i64 ts.length), (14, .int .i64 j), (31, .sl (cs.map av)), (32, .int .i64 cs.length), (33, .int .i64 x.1)], []⟩) (fun x => x.1 ≤ cs.length ∧ consF x.2 x.1 (cs.drop x.1) = consF s0 0 cs ∧ x.2.size + 100 * ((cs.drop x.1).map Bulk.bulk).sum ≤ s0.size + 100 * (cs.map Bulk.bulk).sum) (fun x => cs.length - x.1) (0, s0) ⟨Nat.zero_le _, rfl, by dsimp only; rw [List.drop_zero]; exact Nat.le_refl _⟩ (by simp +contextual -dsimp only [↓SD, SU, SB, simprocAttr]) trivial ?_
    rintro ⟨i, s1⟩ ⟨hi, hqi, hsi⟩
    dsimp only at hi hqi hsi ⊢
    by_cases hlt2 : i < cs.length
    ·have e2 := getD_map av cs i .top hlt2
     have hbd2 := bsum_drop cs i hlt2
     have hcm := bulk_mem (List.getElem_mem hlt2)
     have hcb := List.all_eq_true.1 hcs cs[i] (List.getElem_mem hlt2)
     have hcl := conStep_le hcb s1 i
     have hqi2 : consF (conStep s1 i cs[i]) (i + 1) (cs.drop (i + 1)) = consF s0 0 cs := by rw [← hqi, List.drop_eq_getElem_cons hlt2, consF]
     generalize cs[i] = c at *
     obtain ⟨cn, ch, ⟨items⟩⟩ := c
     rw [av_Con] at e2
     have hty3 := fun h => conOkB_ty hcb h
     dsimp only at e2 hcl hty3
     have c2 : Bulk.bulk (⟨cn, ch, ⟨items⟩⟩ : Con) = Bulk.bulk cn + Bulk.bulk ch + (Bulk.bulk items + 1) + 1 := rfl
     have c3 : Bulk.bulk cn = cn.size + 1 := rfl
     have k1 : (bs [32, 124, 32]).size = 3 := rfl
     have k2 : (bs [32, 111, 102, 32]).size = 4 := rfl
     have hil := bulk_length items
     obtain ⟨s2, hs2⟩ : ∃ s2, s2 = conStep s1 i ⟨cn, ch, ⟨items⟩⟩ := ⟨_, rfl⟩
     rw [← hs2] at hqi2 hcl
     clear hqi
     rcases Nat.lt_or_ge 0 i with h0 | h0
     all_goals cases ch
     ·have hi1 : (0 : Int) < (i : Int) := by omega
      have hs3 : s2 = (s1 ++ bs [32, 124, 32]) ++ cn := by rw [hs2, conStep]; simp only [if_pos h0, Bool.false_eq_true, if_false]
      clear hs2
      have hs4 := congrArg ByteArray.size hs3
      simp only [ByteArray.size_append] at hs4
      simp +contextual -dsimp (maxSteps := 2000000) only [↓SD, SU, SB, simprocAttr, map_len, hlt2, e2, hi1]
      intro v7
      try simp only [ByteArray.size_append]
      refine ⟨by unfold maxLen; omega, by unfold maxLen; omega, ?_⟩
      rw [← hs3]
      exact ⟨by omega, Goes.le ⟨(i + 1, s2), ⟨⟨hlt2, hqi2, by dsimp only; omega⟩, (by first | omega | (simp only; omega))⟩, rfl⟩ (by simp +contextual -dsimp only [↓SD, SU, SB, simprocAttr, Int.natCast_add]) trivial⟩
     ·have hi1 : (0 : Int) < (i : Int) := by omega
      have hs3 : s2 = (s1 ++ bs [32, 124, 32]) ++ cn ++ bs [32, 111, 102, 32] ++ tyS items (items.length + 1) 0 := by rw [hs2, conStep]; simp only [if_pos h0, if_true]
      have hty4 := tyB_facts (hty3 rfl)
      have CT := l04Ty_ok items (by omega) hty4.1 (items.length + 1) 0 _ (by omega) hty4.2
      have hT := hcl.2 rfl
      generalize tyS items (items.length + 1) 0 = T at *
      clear hs2
      have hs4 := congrArg ByteArray.size hs3
      simp only [ByteArray.size_append] at hs4
      simp +contextual -dsimp (maxSteps := 2000000) only [↓SD, SU, SB, simprocAttr, map_len, hlt2, e2, hi1]
      intro v7
      try simp only [ByteArray.size_append]
      refine ⟨by unfold maxLen; omega, by unfold maxLen; omega, by unfold maxLen; omega, ?_⟩
      refine aCallK_of _ CT ?_
      simp +contextual -dsimp (maxSteps := 2000000) only [↓SD, SU, SB, simprocAttr, ByteArray.size_append]
      refine ⟨by unfold maxLen; omega, ?_⟩
      rw [← hs3]
      exact ⟨by omega, Goes.le ⟨(i + 1, s2), ⟨⟨hlt2, hqi2, by dsimp only; omega⟩, (by first | omega | (simp only; omega))⟩, rfl⟩ (by simp +contextual -dsimp only [↓SD, SU, SB, simprocAttr, Int.natCast_add]) trivial⟩
     ·have hi1 : ¬ (0 : Int) < (i : Int) := by omega
      have hs3 : s2 = s1 ++ cn := by rw [hs2, conStep]; simp only [if_neg (Nat.not_lt.2 h0), Bool.false_eq_true, if_false]
      clear hs2
      have hs4 := congrArg ByteArray.size hs3
      simp only [ByteArray.size_append] at hs4
      simp +contextual -dsimp (maxSteps := 2000000) only [↓SD, SU, SB, simprocAttr, map_len, hlt2, e2, hi1]
      intro v7
      try simp only [ByteArray.size_append]
      refine ⟨by unfold maxLen; omega, ?_⟩
      rw [← hs3]
      exact ⟨by omega, Goes.le ⟨(i + 1, s2), ⟨⟨hlt2, hqi2, by dsimp only; omega⟩, (by first | omega | (simp only; omega))⟩, rfl⟩ (by simp +contextual -dsimp only [↓SD, SU, SB, simprocAttr, Int.natCast_add]) trivial⟩
     ·have hi1 : ¬ (0 : Int) < (i : Int) := by omega
      have hs3 : s2 = s1 ++ cn ++ bs [32, 111, 102, 32] ++ tyS items (items.length + 1) 0 := by rw [hs2, conStep]; simp only [if_neg (Nat.not_lt.2 h0), if_true]
      have hty4 := tyB_facts (hty3 rfl)
      have CT := l04Ty_ok items (by omega) hty4.1 (items.length + 1) 0 _ (by omega) hty4.2
      have hT := hcl.2 rfl
      generalize tyS items (items.length + 1) 0 = T at *
      clear hs2
      have hs4 := congrArg ByteArray.size hs3
      simp only [ByteArray.size_append] at hs4
      simp +contextual -dsimp (maxSteps := 2000000) only [↓SD, SU, SB, simprocAttr, map_len, hlt2, e2, hi1]
      intro v7
      try simp only [ByteArray.size_append]
      refine ⟨by unfold maxLen; omega, by unfold maxLen; omega, ?_⟩
      refine aCallK_of _ CT ?_
      simp +contextual -dsimp (maxSteps := 2000000) only [↓SD, SU, SB, simprocAttr, ByteArray.size_append]
      refine ⟨by unfold maxLen; omega, ?_⟩
      rw [← hs3]
      exact ⟨by omega, Goes.le ⟨(i + 1, s2), ⟨⟨hlt2, hqi2, by dsimp only; omega⟩, (by first | omega | (simp only; omega))⟩, rfl⟩ (by simp +contextual -dsimp only [↓SD, SU, SB, simprocAttr, Int.natCast_add]) trivial⟩
    ·obtain rfl : i = cs.length := by omega
     rw [List.drop_length, consF] at hqi
     subst hqi
     simp +contextual -dsimp (maxSteps := 2000000) only [↓SD, SU, SB, simprocAttr, map_len, Nat.lt_irrefl]
     exact ⟨by unfold maxLen; omega, by omega, Goes.le ⟨(j + 1, consF s0 0 cs ++ bs [59, 32]), ⟨⟨hlt, hq2, by dsimp only; rw [ByteArray.size_append]; omega⟩, (by first | omega | (simp only; omega))⟩, rfl⟩ (by simp +contextual -dsimp only [↓SD, SU, SB, simprocAttr, Int.natCast_add]) trivial⟩
  ·obtain rfl : j = ts.length := by omega
   rw [List.drop_length] at hq
   have hq3 : s = typesF (bs []) ts := hq
   simp +contextual -dsimp (maxSteps := 2000000) only [↓SD, SU, SB, simprocAttr, map_len, Nat.lt_irrefl]
   refine aCallK_of _ (exprUnit_ok ts) ?_
   rw [List.drop_length, List.map_nil, List.sum_nil] at hs
   have g4 : (bs [40, 41]).size = 2 := rfl
   rw [hq3] at hs
   simp +contextual -dsimp (maxSteps := 2000000) only [↓SD, SU, SB, simprocAttr, hq3]
   unfold maxLen; omega
end Go.Proofs.YtjifpdcflankpaaGreat

namespace Go.Proofs.YtjifpdcflankpaaGreat
open Go.RowKit Go.Proofs.YtjifpdcflankpaaGreat.Av Go.Proofs.YtjifpdcflankpaaGreat.Ml
open Go.Proofs.YtjifpdcflankpaaGreat.Av.AVal (av)

theorem callsF_arg {P : Go.Program} {f : FuncId} {x y r : AV} (h : CallsF P f [x] r) (hy : AvPure y) (hv : ∀ S w v, VR S w mu0 v y → VR S w mu0 v x) : CallsF P f [y] r :=
 ⟨h.1, fun z hz => by rw [List.mem_singleton.1 hz]; exact hy, fun S w vs h1 h2 => h.2.2 S w vs h1 (by
  refine ⟨h2.1, fun i v z ha hb => ?_⟩
  cases i with
  | succ i => simp at hb
  | zero =>
   obtain rfl : x = z := by simpa using hb
   exact hv S w v (h2.2 0 v y ha rfl))⟩
theorem printUnit_nil (ts : List TypeD) (hx : Bulk.bulk (unitP ts) ≤ 4294967296) : CallsF Tryz.prog 90 [.agg [.sl (ts.map av), .sl [.agg [.int .i64 12, .int .i64 0, .int .i64 0, .str (bs []), .nils, .nils]]]] (.str (unitS ts)) :=
 callsF_arg (printUnit_ok ts hx) (AvPure.agg (by
  intro x hx
  simp only [List.mem_cons, List.not_mem_nil, or_false] at hx
  rcases hx with rfl | rfl
  ·exact lav_clean ts
  ·refine AvPure.sl fun e he => ?_
   rw [List.mem_singleton.1 he]
   intro x hx
   have hx2 : x ∈ [AV.int .i64 12, .int .i64 0, .int .i64 0, .str (bs []), .nils, .nils] := hx
   simp only [List.mem_cons, List.not_mem_nil, or_false] at hx2
   rcases hx2 with rfl | rfl | rfl | rfl | rfl | rfl
   ·exact pint _
   ·exact pint _
   ·exact pint _
   ·exact AvPure.str _
   ·exact AvPure.nils
   ·exact AvPure.nils)) fun S w v h => vr_unit h
def backVS (c : Program) : AV := if specK c = true then .tup [av (backP c), .bool true] else .tup [.agg [.nils, .nils], .bool false]
theorem backVS_pure (c : Program) : AvPure (backVS c) := by
 unfold backVS
 split
 ·exact AvPure.tup (by simp; exact ⟨AVal.clean _, AvPure.bool _⟩)
 ·exact AvPure.tup (by simp; exact ⟨AvPure.agg (by simp; exact AvPure.nils), AvPure.bool _⟩)
theorem backVS_no {c : Program} (h : specK c = false) : backVS c = .tup [.agg [.nils, .nils], .bool false] := by unfold backVS; rw [if_neg (by rw [h]; simp)]
theorem toCoreR_types {p : Program} (h : toCoreB p = true) : (toCoreR p).types = p.types := by
 unfold toCoreB toCoreO at h
 unfold toCoreR toCoreO
 split
 ·rename_i hp
  rw [if_pos hp] at h
  cases hc : coreT (treeAt p.nodes 0) [] with
  | none => rw [hc] at h; cases h
  | some t => rfl
 ·rename_i hp
  rw [if_neg hp] at h; cases h
theorem nodeS_M {n : Node} (h : nodeS n = true) (hx : Bulk.bulk n ≤ 4294967296) : nodeM n n.kids.length := by
 unfold nodeS at h
 simp only [Bool.and_eq_true, Bool.not_eq_true', Bool.and_eq_false_iff, decide_eq_true_eq, decide_eq_false_iff_not, Bool.not_eq_false', Bool.not_eq_false] at h
 obtain ⟨⟨⟨⟨h1, h2⟩, h3⟩, h4⟩, h5⟩ := h
 refine ⟨fun h13 => ?_, fun h3' hs => ?_, hx⟩
 ·rcases h1 with h1 | h1
  ·exact absurd h13 h1
  ·omega
 ·rcases h3 with (h3 | h3) | h3
  ·exact absurd h3' h3
  ·exact absurd hs h3
  ·omega
theorem treeAt_okM {l : List Node} (hk : ∀ i, i < l.length → ∀ k ∈ nkids l i, (i : Int) < k ∧ k < l.length) (hn : ∀ n ∈ l, nodeM n n.kids.length) : ∀ (f i : Nat), i < l.length → l.length - i ≤ f → (growT l f i).okM
 | 0, i, hi, hf => by omega
 | f + 1, i, hi, hf => by
  rw [growT, Tr.okM]
  have e : l.getD i default = l[i] := by simp [List.getD_eq_getElem?_getD, hi]
  refine ⟨?_, ?_⟩
  ·rw [List.length_map, nkids, e]; exact hn _ (List.getElem_mem hi)
  ·have hm : ∀ t ∈ (nkids l i).map (fun k => growT l f k.toNat), t.okM := fun t ht => by
    obtain ⟨k, hk', rfl⟩ := List.mem_map.1 ht
    have := hk i hi k hk'
    exact treeAt_okM hk hn f k.toNat (by omega) (by omega)
   generalize (nkids l i).map (fun k => growT l f k.toNat) = L at hm
   induction L with
   | nil => rw [Tr.okMs]; trivial
   | cons t L ih => rw [Tr.okMs]; exact ⟨hm t (by simp), ih fun x hx => hm x (by simp [hx])⟩
set_option maxHeartbeats 4000000 in
theorem l15Back_ok (c : Program) (hx : 26 * Bulk.bulk c + 100 ≤ 4294967296) : CallsF Tryz.prog 39 [av c] (backVS c) := by
 refine ir_spec_l15Back.F rfl (by simp; exact AVal.clean c) (backVS_pure c) ?_
 have hb : Bulk.bulk c = Bulk.bulk c.types + Bulk.bulk c.nodes + 1 := rfl
 have hnl := bulk_length c.nodes
 have CS := l15Shape_ok c (by omega)
 rw [av_Program] at CS
 cases hs : shapeS c with
 | false =>
  rw [hs] at CS
  have hno : specK c = false := by unfold specK; rw [hs]; rfl
  rw [backVS_no hno]
  simp +contextual -dsimp (maxSteps := 2000000) only [↓SD, SU, SB, simprocAttr, ir_spec_l15Back, av_Program]
  intro v2
  refine aCallK_of _ CS ?_
  simp +contextual -dsimp (maxSteps := 2000000) only [↓SD, SU, SB, simprocAttr]
 | true =>
  rw [hs] at CS
  have hK : specK c = (toCoreB (backP c) && decide ((toCoreR (backP c)).nodes = c.nodes)) := by unfold specK; rw [hs]; rfl
  have hsh := hs
  simp only [shapeS, Bool.and_eq_true, decide_eq_true_eq, List.all_eq_true] at hsh
  obtain ⟨⟨⟨a1, a2⟩, a3⟩, a4⟩ := hsh
  have hk : ∀ i, i < c.nodes.length → ∀ k ∈ nkids c.nodes i, (i : Int) < k ∧ k < c.nodes.length := fun i hi k hk => tree_in a4 hi hk
  have tok := treeAt_okM hk (fun n hn => nodeS_M (a3 n hn) (by have := bulk_mem hn; omega)) c.nodes.length 0 (by omega) (by omega)
  have tlb := layT_bulk (treeAt c.nodes 0) 0
  rw [lay_grow a4] at tlb
  have twb := wt_bulk (treeAt c.nodes 0)
  have tsz := treeAt_size a4 (i := 0) (by omega)
  have hbb := backP_bulk a4
  have C1 := l15Types_ok c.types (by omega)
  have C2 := l09Sub_ok c hk (by omega) c.nodes.length 0 (by omega) (by omega)
  have eT : growT c.nodes c.nodes.length 0 = treeAt c.nodes 0 := rfl
  rw [eT, av_Program] at C2
  have C3 := l15Named_ok (treeAt c.nodes 0) tok 0 (by omega)
  have e0 : ((0 : Nat) : Int) = 0 := rfl
  rw [e0] at C2 C3
  have C4 := l03LayF_ok (namedR (treeAt c.nodes 0) 0) (by rw [namedR_size]; omega)
  have C5 := specToCore_ok (backP c) (by omega)
  have e1 : av (backP c) = .agg [.sl (c.types.map av), .sl ((layT 0 (namedR (treeAt c.nodes 0) 0)).map av)] := av_Program _
  rw [e1] at C5
  have hbV : backVS c = if specK c = true then .tup [.agg [.sl (c.types.map av), .sl ((layT 0 (namedR (treeAt c.nodes 0) 0)).map av)], .bool true] else .tup [.agg [.nils, .nils], .bool false] := by unfold backVS; rw [e1]
  have hcb := toCoreR_bulk (p := backP c) (by omega)
  have hcb2 : Bulk.bulk (toCoreR (backP c)) = Bulk.bulk (toCoreR (backP c)).types + Bulk.bulk (toCoreR (backP c)).nodes + 1 := rfl
  have hub : Bulk.bulk (unitP c.types) = Bulk.bulk c.types + Bulk.bulk (unitP c.types).nodes + 1 := rfl
  have hub2 : Bulk.bulk (unitP c.types).nodes ≤ 50 := by show Bulk.bulk [(⟨12, 0, 0, bs [], [], []⟩ : Node)] ≤ 50; decide
  have C6 := l15Same_ok c.types c.nodes (toCoreR (backP c)).nodes (unitS c.types) (printUnit_nil c.types (by omega)) (by omega) (by omega)
  have hty := toCoreR_types (p := backP c)
  have hty2 : (backP c).types = c.types := rfl
  rw [av_Program (toCoreR (backP c))] at C5
  rw [hbV, hK]
  clear hbV
  cases hB : toCoreB (backP c) with
  | false =>
   rw [hB] at C5
   generalize (layT 0 (namedR (treeAt c.nodes 0) 0)).map (av : Node → AV) = L at *
   simp +contextual -dsimp (maxSteps := 2000000) only [↓SD, SU, SB, simprocAttr, ir_spec_l15Back, av_Program]
   intro v2
   refine aCallK_of _ CS ?_
   simp +contextual -dsimp (maxSteps := 2000000) only [↓SD, SU, SB, simprocAttr]
   refine aCallK_of _ C1 ?_
   simp +contextual -dsimp (maxSteps := 2000000) only [↓SD, SU, SB, simprocAttr, sub_len, sub_agg, sub_pur, sub_purA, sub_ok]
   refine aCallK_of _ C2 ?_
   simp +contextual -dsimp (maxSteps := 2000000) only [↓SD, SU, SB, simprocAttr, sub_len, sub_agg, sub_pur, sub_purA, sub_ok]
   refine aCallK_of _ C3 ?_
   simp +contextual -dsimp (maxSteps := 2000000) only [↓SD, SU, SB, simprocAttr, sub_len, sub_agg, sub_pur, sub_purA, sub_ok]
   refine aCallK_of _ C4 ?_
   simp +contextual -dsimp (maxSteps := 2000000) only [↓SD, SU, SB, simprocAttr, sub_len, sub_agg, sub_pur, sub_purA, sub_ok]
   refine ⟨fun v4 => ?_, fun v4 => ?_⟩
   all_goals
    refine aCallK_of _ C5 ?_
    simp +contextual -dsimp (maxSteps := 2000000) only [↓SD, SU, SB, simprocAttr, sub_len, sub_agg, sub_pur, sub_purA, sub_ok]
  | true =>
   rw [hB] at C5
   rw [hty hB, hty2] at C5
   generalize (layT 0 (namedR (treeAt c.nodes 0) 0)).map (av : Node → AV) = L at *
   have hde : decide ((toCoreR (backP c)).nodes = c.nodes) = decide (c.nodes = (toCoreR (backP c)).nodes) := by congr 1; exact propext ⟨Eq.symm, Eq.symm⟩
   rw [hde]
   generalize hR : (toCoreR (backP c)).nodes = R at *
   cases hD : decide (c.nodes = R) with
   | false =>
    rw [hD] at C6
    simp +contextual -dsimp (maxSteps := 2000000) only [↓SD, SU, SB, simprocAttr, ir_spec_l15Back, av_Program]
    intro v2
    refine aCallK_of _ CS ?_
    simp +contextual -dsimp (maxSteps := 2000000) only [↓SD, SU, SB, simprocAttr]
    refine aCallK_of _ C1 ?_
    simp +contextual -dsimp (maxSteps := 2000000) only [↓SD, SU, SB, simprocAttr, sub_len, sub_agg, sub_pur, sub_purA, sub_ok]
    refine aCallK_of _ C2 ?_
    simp +contextual -dsimp (maxSteps := 2000000) only [↓SD, SU, SB, simprocAttr, sub_len, sub_agg, sub_pur, sub_purA, sub_ok]
    refine aCallK_of _ C3 ?_
    simp +contextual -dsimp (maxSteps := 2000000) only [↓SD, SU, SB, simprocAttr, sub_len, sub_agg, sub_pur, sub_purA, sub_ok]
    refine aCallK_of _ C4 ?_
    simp +contextual -dsimp (maxSteps := 2000000) only [↓SD, SU, SB, simprocAttr, sub_len, sub_agg, sub_pur, sub_purA, sub_ok]
    refine ⟨fun v4 => ?_, fun v4 => ?_⟩
    all_goals
     refine aCallK_of _ C5 ?_
     simp +contextual -dsimp (maxSteps := 2000000) only [↓SD, SU, SB, simprocAttr, sub_len, sub_agg, sub_pur, sub_purA, sub_ok]
     intro v5
     refine aCallK_of _ C6 ?_
     simp +contextual -dsimp (maxSteps := 2000000) only [↓SD, SU, SB, simprocAttr, sub_len, sub_agg, sub_pur, sub_purA, sub_ok]
   | true =>
    rw [hD] at C6
    simp +contextual -dsimp (maxSteps := 2000000) only [↓SD, SU, SB, simprocAttr, ir_spec_l15Back, av_Program]
    intro v2
    refine aCallK_of _ CS ?_
    simp +contextual -dsimp (maxSteps := 2000000) only [↓SD, SU, SB, simprocAttr]
    refine aCallK_of _ C1 ?_
    simp +contextual -dsimp (maxSteps := 2000000) only [↓SD, SU, SB, simprocAttr, sub_len, sub_agg, sub_pur, sub_purA, sub_ok]
    refine aCallK_of _ C2 ?_
    simp +contextual -dsimp (maxSteps := 2000000) only [↓SD, SU, SB, simprocAttr, sub_len, sub_agg, sub_pur, sub_purA, sub_ok]
    refine aCallK_of _ C3 ?_
    simp +contextual -dsimp (maxSteps := 2000000) only [↓SD, SU, SB, simprocAttr, sub_len, sub_agg, sub_pur, sub_purA, sub_ok]
    refine aCallK_of _ C4 ?_
    simp +contextual -dsimp (maxSteps := 2000000) only [↓SD, SU, SB, simprocAttr, sub_len, sub_agg, sub_pur, sub_purA, sub_ok]
    refine ⟨fun v4 => ?_, fun v4 => ?_⟩
    all_goals
     refine aCallK_of _ C5 ?_
     simp +contextual -dsimp (maxSteps := 2000000) only [↓SD, SU, SB, simprocAttr, sub_len, sub_agg, sub_pur, sub_purA, sub_ok]
     intro v5
     refine aCallK_of _ C6 ?_
     simp +contextual -dsimp (maxSteps := 2000000) only [↓SD, SU, SB, simprocAttr, sub_len, sub_agg, sub_pur, sub_purA, sub_ok]
theorem implK_specK (c : Program) (hx : 26 * Bulk.bulk c ≤ 4294967296) : implK c = specK c := by
 cases h : treeB (nkids c.nodes) c.nodes.length with
 | true => exact agreeK (by have := backP_bulk h; omega)
 | false =>
  have h1 : implK c = false := by unfold implK shapeP; rw [h]; simp
  have h2 : specK c = false := by unfold specK shapeS; rw [h]; simp
  rw [h1, h2]
end Go.Proofs.YtjifpdcflankpaaGreat
