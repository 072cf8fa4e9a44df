/-
 THE GROUND OF DATA, in one text. Conditions: none.
-/
import Derived.Test.YtmlckdffkbbbhaaGreatPackM
import Derived.Test.YtmlckdffkbbbhaaGreatPackO
import Derived.Test.YtmlckdffkbbbhaaGreatIrCopyO
import Derived.Test.YtmlckdffkbbbhaaGreatPackR
import Derived.Test.YtmlckdffkbbbhaaGreatPackT

set_option linter.unusedVariables false
set_option linter.unusedSimpArgs false
set_option maxRecDepth 100000
namespace Go.Proofs.YtmlckdffkbbbhaaGreat
open Go.RowKit Go.Proofs.YtmlckdffkbbbhaaGreat.Av Go.Proofs.YtmlckdffkbbbhaaGreat.Ml
open Go.Proofs.YtmlckdffkbbbhaaGreat.Av.AVal (av)
open OVal (ov oh on)

def RowP (nm : Nat) (ty : TypeId) (esz : Nat) (es : List AV) (r : AV) (hp' : Hp) : Prop := ∃ v, r = .row nm v es.length ∧ hp' = [(nm, ⟨v, false, ty, esz, es⟩)]
theorem CloneIntR_ok (nm : Nat) (l : List Int) (hl : l.length ≤ 1048576) : CallsH Tryz.prog 144 [.sl (l.map av)] [] (RowP nm 3 1 (l.map av)) := by
 refine funH_slices_Clone_int_int_O rfl ?_
 simp +contextual -dsimp (maxSteps := 2000000) only [↓SD, SU, SB, simprocAttr, ir_slices_Clone_int_int_O, rs_slices_Clone_int_int_O, map_len]
 refine ⟨fun h => ?_, fun v => ⟨⟨?_, by omega, by unfold maxLen; omega⟩, fun u => ?_⟩⟩
 ·refine Goes.new 2 nm 3 1 rfl fun u => ?_
  have hl0 : l = [] := by simpa using h
  subst hl0
  refine Goes.post [(nm, ⟨u, false, 3, 1, []⟩)] ?_
  simp +contextual -dsimp (maxSteps := 2000000) only [↓SD, SU, SB, simprocAttr]
  exact ⟨u, rfl, rfl⟩
 ·rintro y hy
  rw [map_nop] at hy
  obtain ⟨x, _, rfl⟩ := List.mem_map.1 hy
  exact AVal.len x
 ·rw [map_nop]
  refine Goes.ren 2 5 nm (v := u) (n := l.length) rfl hg_eq rfl fun v' => ?_
  refine Goes.post [(nm, ⟨v', false, 3, 1, l.map av⟩)] ?_
  simp +contextual -dsimp (maxSteps := 2000000) only [↓SD, SU, SB, simprocAttr, false_and]
  exact ⟨v', by rw [List.length_map], rfl⟩
theorem CloneTyItemR_ok (nm : Nat) (l : List TyItem) (hl : l.length ≤ 1048576) : CallsH Tryz.prog 108 [.sl (l.map av)] [] (RowP nm 117 3 (l.map av)) := by
 refine funH_slices_Clone_impl_TyItem_impl_TyItem rfl ?_
 simp +contextual -dsimp (maxSteps := 2000000) only [↓SD, SU, SB, simprocAttr, ir_slices_Clone_impl_TyItem_impl_TyItem, rs_slices_Clone_impl_TyItem_impl_TyItem, map_len]
 refine ⟨fun h => ?_, fun v => ⟨⟨?_, by omega, by unfold maxLen; omega⟩, fun u => ?_⟩⟩
 ·refine Goes.new 2 nm 117 3 rfl fun u => ?_
  have hl0 : l = [] := by simpa using h
  subst hl0
  refine Goes.post [(nm, ⟨u, false, 117, 3, []⟩)] ?_
  simp +contextual -dsimp (maxSteps := 2000000) only [↓SD, SU, SB, simprocAttr]
  exact ⟨u, rfl, rfl⟩
 ·rintro y hy
  rw [map_nop] at hy
  obtain ⟨x, _, rfl⟩ := List.mem_map.1 hy
  exact AVal.len x
 ·rw [map_nop]
  refine Goes.ren 2 5 nm (v := u) (n := l.length) rfl hg_eq rfl fun v' => ?_
  refine Goes.post [(nm, ⟨v', false, 117, 3, l.map av⟩)] ?_
  simp +contextual -dsimp (maxSteps := 2000000) only [↓SD, SU, SB, simprocAttr, false_and]
  exact ⟨v', by rw [List.length_map], rfl⟩
theorem ClonePNodeR_ok (nm : Nat) (l : List PNode) (hl : l.length ≤ 1048576) : CallsH Tryz.prog 143 [.sl (l.map av)] [] (RowP nm 90 4 (l.map av)) := by
 refine funH_slices_Clone_impl_PNode_impl_PNode_O rfl ?_
 simp +contextual -dsimp (maxSteps := 2000000) only [↓SD, SU, SB, simprocAttr, ir_slices_Clone_impl_PNode_impl_PNode_O, rs_slices_Clone_impl_PNode_impl_PNode_O, map_len]
 refine ⟨fun h => ?_, fun v => ⟨⟨?_, by omega, by unfold maxLen; omega⟩, fun u => ?_⟩⟩
 ·refine Goes.new 2 nm 90 4 rfl fun u => ?_
  have hl0 : l = [] := by simpa using h
  subst hl0
  refine Goes.post [(nm, ⟨u, false, 90, 4, []⟩)] ?_
  simp +contextual -dsimp (maxSteps := 2000000) only [↓SD, SU, SB, simprocAttr]
  exact ⟨u, rfl, rfl⟩
 ·rintro y hy
  rw [map_nop] at hy
  obtain ⟨x, _, rfl⟩ := List.mem_map.1 hy
  exact AVal.len x
 ·rw [map_nop]
  refine Goes.ren 2 5 nm (v := u) (n := l.length) rfl hg_eq rfl fun v' => ?_
  refine Goes.post [(nm, ⟨v', false, 90, 4, l.map av⟩)] ?_
  simp +contextual -dsimp (maxSteps := 2000000) only [↓SD, SU, SB, simprocAttr, false_and]
  exact ⟨v', by rw [List.length_map], rfl⟩
theorem CloneConR_ok (nm : Nat) (l : List Con) (hl : l.length ≤ 1048576) : CallsH Tryz.prog 107 [.sl (l.map av)] [] (RowP nm 78 3 (l.map av)) := by
 refine funH_slices_Clone_impl_Con_impl_Con rfl ?_
 simp +contextual -dsimp (maxSteps := 2000000) only [↓SD, SU, SB, simprocAttr, ir_slices_Clone_impl_Con_impl_Con, rs_slices_Clone_impl_Con_impl_Con, map_len]
 refine ⟨fun h => ?_, fun v => ⟨⟨?_, by omega, by unfold maxLen; omega⟩, fun u => ?_⟩⟩
 ·refine Goes.new 2 nm 78 3 rfl fun u => ?_
  have hl0 : l = [] := by simpa using h
  subst hl0
  refine Goes.post [(nm, ⟨u, false, 78, 3, []⟩)] ?_
  simp +contextual -dsimp (maxSteps := 2000000) only [↓SD, SU, SB, simprocAttr]
  exact ⟨u, rfl, rfl⟩
 ·rintro y hy
  rw [map_nop] at hy
  obtain ⟨x, _, rfl⟩ := List.mem_map.1 hy
  exact AVal.len x
 ·rw [map_nop]
  refine Goes.ren 2 5 nm (v := u) (n := l.length) rfl hg_eq rfl fun v' => ?_
  refine Goes.post [(nm, ⟨v', false, 78, 3, l.map av⟩)] ?_
  simp +contextual -dsimp (maxSteps := 2000000) only [↓SD, SU, SB, simprocAttr, false_and]
  exact ⟨v', by rw [List.length_map], rfl⟩
theorem callsH_weak {P : Go.Program} {f : FuncId} {args : List AV} {hp : Hp} {Post Post2 : AV → Hp → Prop} (h : CallsH P f args hp Post) (hg : ∀ r hp', Post r hp' → Post2 r hp') : CallsH P f args hp Post2 :=
 callsH_goes h fun r hp' hr => Goes.here (hg r hp' hr)
theorem oh_tyitems (nm : Nat) (vs : Nat → Nat) (l : List TyItem) : oh nm vs l = [(nm, ⟨vs nm, false, 117, 3, l.map av⟩)] := oh_flat (fun _ _ _ => rfl) (fun _ _ _ => rfl) nm vs l
theorem CloneIntO_ok (nm : Nat) (l : List Int) (hl : l.length ≤ 1048576) : CallsH Tryz.prog 144 [.sl (l.map av)] [] (ToPost nm l) := by
 refine callsH_weak (CloneIntR_ok nm l hl) ?_
 rintro r hp' ⟨v, rfl, rfl⟩
 exact ⟨fun _ => v, by rw [ov_list, List.length_map], by rw [oh_ints]⟩
theorem CloneTyItemO_ok (nm : Nat) (l : List TyItem) (hl : l.length ≤ 1048576) : CallsH Tryz.prog 108 [.sl (l.map av)] [] (ToPost nm l) := by
 refine callsH_weak (CloneTyItemR_ok nm l hl) ?_
 rintro r hp' ⟨v, rfl, rfl⟩
 exact ⟨fun _ => v, by rw [ov_list, List.length_map], by rw [oh_tyitems]⟩
def mixO {α : Type} [AVal α] [OVal α] (nm : Nat) (vs : Nat → Nat) (l : List α) (k : Nat) : List AV := ovL nm vs 0 (l.take k) ++ (l.drop k).map av
section
variable {α : Type} [AVal α] [OVal α]
theorem mixO_zero (nm : Nat) (vs : Nat → Nat) (l : List α) : mixO nm vs l 0 = l.map av := rfl
theorem mixO_all (nm : Nat) (vs : Nat → Nat) (l : List α) : mixO nm vs l l.length = ovL nm vs 0 l := by simp [mixO]
theorem mixO_len {nm : Nat} {vs : Nat → Nat} {l : List α} {k : Nat} (h : k ≤ l.length) : (mixO nm vs l k).length = l.length := by simp [mixO, ovL_len]; omega
theorem mixO_get {nm : Nat} {vs : Nat → Nat} {l : List α} {k : Nat} (h : k < l.length) (d : AV) : (mixO nm vs l k).getD k d = av l[k] := by
 have hk : (ovL nm vs 0 (l.take k)).length = k := by simp [ovL_len]; omega
 simp only [mixO, List.getD_eq_getElem?_getD]
 rw [List.getElem?_append_right (by omega), hk, Nat.sub_self, List.drop_eq_getElem_cons h]
 rfl
theorem mixO_set {nm : Nat} {vs vs' : Nat → Nat} {l : List α} {k : Nat} (h : k < l.length) : (mixO nm vs' l k).set k (ov (sub nm k) vs l[k]) = mixO nm (glue (sub nm k) vs vs') l (k + 1) := by
 have hk : (ovL nm vs' 0 (l.take k)).length = k := by simp [ovL_len]; omega
 have ht : (l.take k).length = k := by simp; omega
 simp only [mixO]
 rw [List.set_append_right _ _ (by omega), hk, Nat.sub_self, List.drop_eq_getElem_cons h, List.map_cons, List.set_cons_zero, List.take_succ_eq_append_getElem h, ovL_app, ht, Nat.zero_add, (ovL_glue' vs vs' 0 _ (by omega)).1]
 simp only [ovL, ov_glue, List.append_assoc, List.cons_append, List.nil_append]
theorem ovL_take {nm : Nat} {vs vs' : Nat → Nat} {l : List α} {k : Nat} (h : k < l.length) : ovL nm (glue (sub nm k) vs vs') 0 (l.take (k + 1)) = ovL nm vs' 0 (l.take k) ++ [ov (sub nm k) vs l[k]] := by
 have ht : (l.take k).length = k := by simp; omega
 rw [List.take_succ_eq_append_getElem h, ovL_app, ht, Nat.zero_add, (ovL_glue' vs vs' 0 _ (by omega)).1]
 simp only [ovL, ov_glue]
theorem hpLe_pre {a H t : Hp} (h : hpLe H t) (hn : ∀ p ∈ t, ∀ q ∈ a, q.1 ≠ p.1) : hpLe (a ++ H) t := hpLe_iff.2 fun p hp => by
 rw [hg_app_r (fun q hq => hn p hp q hq)]; exact hpLe_iff.1 h p hp
theorem hpLe_c {j : Nat} {b : Box} {H t : Hp} (h : hpLe H t) (hn : ∀ p ∈ t, j ≠ p.1) : hpLe ((j, b) :: H) t := hpLe_pre (a := [(j, b)]) h fun p hp q hq => by rw [List.mem_singleton.1 hq]; exact hn p hp
theorem ohL_more {nm k : Nat} {vs v1 : Nat → Nat} {l : List α} (h : k < l.length) {H : Hp} (h1 : hpLe H (ohL nm vs 0 (l.take k))) (h2 : hpLe H (oh (sub nm k) v1 l[k])) : hpLe H (ohL nm (glue (sub nm k) v1 vs) 0 (l.take (k + 1))) := by
 rw [ohL_take h, hpLe_app]; exact ⟨h1, h2⟩
theorem ohL_ge {nm i : Nat} {vs : Nat → Nat} {l : List α} : ∀ p ∈ ohL nm vs i l, 10000 ≤ p.1 := fun p hp => by obtain ⟨q, _, hq⟩ := ohL_in hp; exact hq.ge
theorem ohL_lt {nm : Nat} {vs : Nat → Nat} {l : List α} {k : Nat} : ∀ p ∈ ohL nm vs 0 (l.take k), ∃ i, i < k ∧ InT (sub nm i) p.1 := fun p hp => by
 obtain ⟨j, hj, hm⟩ := ohL_mem hp
 rw [Nat.zero_add] at hm
 exact ⟨j, by simp at hj; omega, OVal.inh hm⟩
end
theorem copyPatO_ok (nm : Nat) (q : Pat) (hx : Bulk.bulk q ≤ 1048576) : CallsH Tryz.prog 109 [av q] [] (ToPost nm q) := by
 obtain ⟨l⟩ := q
 have hl := bulk_length l
 have hb : Bulk.bulk l + 1 ≤ 1048576 := hx
 have C := ClonePNodeR_ok 8 l (by omega)
 refine callsH_goes (Post := fun r hp' => ∃ v vs, r = .agg [.row 8 v l.length] ∧ hp' = (8, ⟨v, false, 90, 4, ovL (sub nm 0) vs 0 l⟩) :: ohL (sub nm 0) vs 0 l) (funH_impl_copyPat_O rfl ?_) ?_
 case refine_2 =>
  rintro r hp' ⟨v, vs, rfl, rfl⟩
  refine Goes.renA 0 0 8 (sub nm 0) (v := v) (n := l.length) rfl rfl hg_eq rfl fun v' => ?_
  obtain ⟨H', hH'⟩ : ∃ H', H' = ((sub nm 0, ⟨v', false, 90, 4, ovL (sub nm 0) vs 0 l⟩) :: hrest [8] ((8, ⟨v, false, 90, 4, ovL (sub nm 0) vs 0 l⟩) :: ohL (sub nm 0) vs 0 l) : Hp) := ⟨_, rfl⟩
  have hle := full_le (α := PNode) (nm := sub nm 0) (j := 8) (l := l) (vs := vs) (by omega) hH'
  dsimp only
  rw [← hH']
  refine Goes.le (t := ⟨[(0, .agg [.row (sub nm 0) v' l.length])], oh (sub nm 0) (glue (sub nm 0) (fun k => if k = sub nm 0 then v' else vs k) vs) l⟩) ?_ (by simp +contextual -dsimp only [↓SD, SU, SB, simprocAttr]) hle
  exact ⟨_, by rw [ov_Pat]; rw [← (oh_full (nm := sub nm 0) (vs := vs) (v' := v') l).1]; rfl, rfl⟩
 simp +contextual -dsimp (maxSteps := 2000000) only [↓SD, SU, SB, simprocAttr, ir_impl_copyPat_O, rs_impl_copyPat_O, av_Pat, map_len]
 intro v
 refine aCallH_of [] C (by simp +contextual -dsimp only [↓SD, SU, SB, simprocAttr]) ?_
 rintro r hp' ⟨u, rfl, rfl⟩
 simp +contextual -dsimp (maxSteps := 2000000) only [↓SD, SU, SB, simprocAttr, map_len]
 intro v3
 obtain ⟨K, hK⟩ : ∃ K, K = sub nm 0 := ⟨_, rfl⟩
 rw [← hK]
 refine aLoop_of (X := Nat × (Nat → Nat)) (fun x => ⟨[(2, .ptr 2 v 0 0), (3, .ptr 3 v3 0 0), (11, .row 8 u l.length), (12, .int .i64 l.length), (13, .int .i64 x.1)], (2, ⟨v, false, 88, 1, [.agg [.nils]]⟩) :: (3, ⟨v3, false, 88, 1, [.agg [.row 8 u l.length]]⟩) :: (8, ⟨u, false, 90, 4, mixO K x.2 l x.1⟩) :: ohL K x.2 0 (l.take x.1)⟩) (fun x => x.1 ≤ l.length) (fun x => l.length - x.1) (0, fun _ => 0) (Nat.zero_le _) (by simp +contextual -dsimp only [↓SD, SU, SB, simprocAttr]) (by simp +contextual -dsimp only [↓SD, SU, SB, simprocAttr, mixO_zero, List.take_zero, ohL_nil]) ?_
 rintro ⟨k, vs⟩ hk
 dsimp only at hk ⊢
 by_cases hlt : k < l.length
 ·have hg := mixO_get (nm := K) (vs := vs) hlt .top
  have hs := fun v1 => mixO_set (nm := K) (vs := v1) (vs' := vs) hlt
  have hlen := mixO_len (nm := K) (vs := vs) hk
  have hm := bulk_mem (List.getElem_mem hlt)
  have hb1 : Bulk.bulk l[k] = Bulk.bulk l[k].kind + Bulk.bulk l[k].n + Bulk.bulk l[k].s + Bulk.bulk l[k].kids + 1 := rfl
  have hl1 := bulk_length l[k].kids
  have CI := CloneIntO_ok (sub (sub K k) 0) l[k].kids (by omega)
  obtain ⟨U, hU⟩ : ∃ U, U = ohL K vs 0 (l.take k) := ⟨_, rfl⟩
  have hUU : hpLe U U := by rw [hU]; exact ohL_self _ _ _ _
  have hUg : ∀ p ∈ U, 10000 ≤ p.1 := by rw [hU]; exact ohL_ge
  have hUl : ∀ p ∈ U, ∃ i, i < k ∧ InT (sub K i) p.1 := by rw [hU]; exact ohL_lt
  have hmo := fun v1 (H : Hp) => ohL_more (nm := K) (vs := vs) (v1 := v1) hlt (H := H)
  rw [← hU] at hmo ⊢
  clear hU
  generalize mixO K vs l k = M at *
  simp only [ov_PNode, oh_PNode] at hs hmo
  generalize l[k] = a at *
  rw [av_PNode] at hg
  simp +contextual -dsimp (maxSteps := 2000000) only [↓SD, SU, SB, simprocAttr, map_len, hlt, hg, hlen]
  intro w5
  refine ⟨?_, ?_⟩
  all_goals
   refine aCallH_gen [] CI (by simp +contextual -dsimp only [↓SD, SU, SB, simprocAttr]) ?_
   rintro r hp' ⟨v1, rfl, rfl⟩ H hH
   rw [hrest_no] at hH
   have hold := old_get hH
   have ho : hpLe H (oh (sub (sub K k) 0) v1 a.kids) := by rw [hH]; exact hpLe_l (OVal.self _ _ _)
   have hUH : hpLe H U := by
    rw [hH]
    refine hpLe_pre ?_ fun p hp q hq e => ?_
    ·repeat (first | exact hUU | refine hpLe_c ?_ (fun p hp e => by have := hUg p hp; omega))
    ·obtain ⟨i, hi, h1⟩ := hUl p hp
     have h2 := (OVal.inh hq).up
     rw [e] at h2
     have := h1.sib h2
     omega
   simp +contextual -dsimp (maxSteps := 2000000) only [↓SD, SU, SB, simprocAttr, map_len, ov_list, hlt, hg, hlen, hold]
   refine ⟨by omega, Goes.le ⟨(k + 1, glue (sub K k) v1 vs), ⟨hlt, (by first | omega | (simp only; omega))⟩, rfl⟩ (by simp +contextual -dsimp only [↓SD, SU, SB, simprocAttr, Int.natCast_add]) ?_⟩
   have hs1 := hs v1
   simp only [← hs1]
   simp +contextual -dsimp (maxSteps := 2000000) only [↓SD, SU, SB, simprocAttr, hold, hg]
   exact hpLe_c (hmo v1 H hUH ho) (fun p hp e => by have := ohL_ge p hp; omega)
 ·obtain rfl : k = l.length := by omega
  rw [List.take_length, mixO_all]
  obtain ⟨U, hU⟩ : ∃ U, U = ohL K vs 0 l := ⟨_, rfl⟩
  have hUU : hpLe U U := by rw [hU]; exact ohL_self _ _ _ _
  have hUg : ∀ p ∈ U, 10000 ≤ p.1 := by rw [hU]; exact ohL_ge
  have hUc : ∀ (j : Nat) (b : Box) (hp : Hp), j < 10000 → hpLe hp U → hpLe ((j, b) :: hp) U := fun j b hp hj h => hpLe_c h fun p hp e => by have := hUg p hp; omega
  rw [← hU]
  simp +contextual -dsimp (maxSteps := 2000000) only [↓SD, SU, SB, simprocAttr, Nat.lt_irrefl]
  refine Goes.post ((8, ⟨u, false, 90, 4, ovL K vs 0 l⟩) :: U) ?_
  simp +contextual -dsimp (maxSteps := 2000000) only [↓SD, SU, SB, simprocAttr, false_and]
  exact ⟨by repeat (first | exact hUU | refine hUc _ _ _ (by omega) ?_), u, vs, rfl, by rw [hU, hK]⟩
theorem copyPatsO_ok (nm : Nat) (l : List Pat) (hx : Bulk.bulk l ≤ 1048576) : CallsH Tryz.prog 61 [.sl (l.map av)] [] (ToPost nm l) := by
 have hl := bulk_length l
 refine funH_impl_copyPats_O rfl ?_
 simp +contextual -dsimp (maxSteps := 2000000) only [↓SD, SU, SB, simprocAttr, ir_impl_copyPats_O, rs_impl_copyPats_O, map_len]
 intro v6
 refine aLoop_of (X := Nat × Nat × (Nat → Nat)) (fun x => ⟨[(3, .row 6 x.2.1 x.1), (7, .sl (l.map av)), (8, .int .i64 l.length), (9, .int .i64 x.1)], (6, ⟨x.2.1, false, 88, 1, ovL nm x.2.2 0 (l.take x.1)⟩) :: ohL nm x.2.2 0 (l.take x.1)⟩) (fun x => x.1 ≤ l.length) (fun x => l.length - x.1) (0, v6, fun _ => 0) (Nat.zero_le _) (by simp +contextual -dsimp only [↓SD, SU, SB, simprocAttr]) (by simp +contextual -dsimp only [↓SD, SU, SB, simprocAttr, List.take_zero, ohL_nil, ovL]) ?_
 rintro ⟨k, u, vs⟩ hk
 dsimp only at hk ⊢
 by_cases hlt : k < l.length
 ·have e := getD_map av l k .top hlt
  have hm := bulk_mem (List.getElem_mem hlt)
  have C := copyPatO_ok (sub nm k) l[k] (by omega)
  have ho := fun v1 => ovL_take (nm := nm) (vs := v1) (vs' := vs) hlt
  have hmo := fun v1 (H : Hp) => ohL_more (nm := nm) (vs := vs) (v1 := v1) hlt (H := H)
  have hel : (ovL nm vs 0 (l.take k)).length = k := by rw [ovL_len]; simp; omega
  obtain ⟨U, hU⟩ : ∃ U, U = ohL nm vs 0 (l.take k) := ⟨_, rfl⟩
  have hUU : hpLe U U := by rw [hU]; exact ohL_self _ _ _ _
  have hUg : ∀ p ∈ U, 10000 ≤ p.1 := by rw [hU]; exact ohL_ge
  have hUl : ∀ p ∈ U, ∃ i, i < k ∧ InT (sub nm i) p.1 := by rw [hU]; exact ohL_lt
  rw [← hU] at hmo ⊢
  clear hU
  obtain ⟨E, hE⟩ : ∃ E, E = ovL nm vs 0 (l.take k) := ⟨_, rfl⟩
  rw [← hE] at hel ho ⊢
  have hEt : List.take k E = E := List.take_of_length_le (by omega)
  simp only [oh_Pat, ov_Pat] at hmo ho
  generalize l[k] = q at *
  rw [av_Pat] at e C
  simp +contextual -dsimp (maxSteps := 2000000) only [↓SD, SU, SB, simprocAttr, map_len, hlt, e]
  intro w5
  refine aCallH_gen [] C (by simp +contextual -dsimp only [↓SD, SU, SB, simprocAttr]) ?_
  rintro r hp' ⟨v1, rfl, rfl⟩ H hH
  rw [hrest_no] at hH
  have hold := fun q hq => old_get hH q hq
  rw [oh_Pat] at hH
  have hoq : hpLe H (oh (sub (sub nm k) 0) v1 q.nodes) := by rw [hH]; exact hpLe_l (OVal.self _ _ _)
  have hUH : hpLe H U := by
   rw [hH]
   refine hpLe_pre ?_ fun p hp q hq e => ?_
   ·repeat (first | exact hUU | refine hpLe_c ?_ (fun p hp e => by have := hUg p hp; omega))
   ·obtain ⟨i, hi, h1⟩ := hUl p hp
    have h2 := (OVal.inh hq).up
    rw [e] at h2
    have := h1.sib h2
    omega
  have hr1 := hpLe_root hoq
  simp +contextual -dsimp (maxSteps := 2000000) only [↓SD, SU, SB, simprocAttr, map_len, ov_Pat, hold, hel, hEt, hr1, false_and, low_beq]
  refine ⟨⟨by omega, by unfold maxLen; omega⟩, fun w => ⟨by omega, Goes.le ⟨(k + 1, w, glue (sub nm k) v1 vs), ⟨hlt, (by first | omega | (simp only; omega))⟩, rfl⟩ (by simp +contextual -dsimp only [↓SD, SU, SB, simprocAttr, Int.natCast_add]) ?_⟩⟩
  have ho1 := ho v1
  simp only [ho1]
  simp +contextual -dsimp (maxSteps := 2000000) only [↓SD, SU, SB, simprocAttr]
  exact hpLe_c (hmo v1 H hUH hoq) (fun p hp e => by have := ohL_ge p hp; omega)
 ·obtain rfl : k = l.length := by omega
  rw [List.take_length]
  obtain ⟨H, hH⟩ : ∃ H, H = ((6, ⟨u, false, 88, 1, ovL nm vs 0 l⟩) :: ohL nm vs 0 l : Hp) := ⟨_, rfl⟩
  rw [← hH]
  simp +contextual -dsimp (maxSteps := 2000000) only [↓SD, SU, SB, simprocAttr, map_len, Nat.lt_irrefl]
  rw [hH]
  refine Goes.ren 2 6 nm (v := u) (n := l.length) rfl hg_eq rfl fun v' => ?_
  obtain ⟨H', hH'⟩ : ∃ H', H' = ((nm, ⟨v', false, 88, 1, ovL nm vs 0 l⟩) :: hrest [6] ((6, ⟨u, false, 88, 1, ovL nm vs 0 l⟩) :: ohL nm vs 0 l) : Hp) := ⟨_, rfl⟩
  have hr : hget H' nm = some ⟨v', false, 88, 1, ovL nm vs 0 l⟩ := by rw [hH']; exact hg_eq
  have hle := full_le (α := Pat) (nm := nm) (j := 6) (l := l) (vs := vs) (by omega) hH'
  dsimp only
  rw [← hH']
  refine Goes.post (oh nm (glue nm (fun k => if k = nm then v' else vs k) vs) l) ?_
  simp +contextual -dsimp (maxSteps := 2000000) only [↓SD, SU, SB, simprocAttr, hr, false_and]
  exact ⟨hle, _, (oh_full l).1.symm, rfl⟩
set_option maxHeartbeats 4000000 in
theorem copyTypesO_ok (nm : Nat) (l : List TypeD) (hx : Bulk.bulk l ≤ 1048576) : CallsH Tryz.prog 60 [.sl (l.map av)] [] (ToPost nm l) := by
 have hl := bulk_length l
 refine funH_impl_copyTypes_O rfl ?_
 simp +contextual -dsimp (maxSteps := 2000000) only [↓SD, SU, SB, simprocAttr, ir_impl_copyTypes_O, rs_impl_copyTypes_O, map_len]
 intro v8
 refine aLoop_of (X := Nat × Nat × (Nat → Nat)) (fun x => ⟨[(3, .row 8 x.2.1 x.1), (9, .sl (l.map av)), (10, .int .i64 l.length), (11, .int .i64 x.1)], (8, ⟨x.2.1, false, 72, 3, ovL nm x.2.2 0 (l.take x.1)⟩) :: ohL nm x.2.2 0 (l.take x.1)⟩) (fun x => x.1 ≤ l.length) (fun x => l.length - x.1) (0, v8, fun _ => 0) (Nat.zero_le _) (by simp +contextual -dsimp only [↓SD, SU, SB, simprocAttr]) (by simp +contextual -dsimp only [↓SD, SU, SB, simprocAttr, List.take_zero, ohL_nil, ovL]) ?_
 rintro ⟨k, u, vs⟩ hk
 dsimp only at hk ⊢
 by_cases hlt : k < l.length
 ·have e := getD_map av l k .top hlt
  have hm := bulk_mem (List.getElem_mem hlt)
  have ho := fun v1 => ovL_take (nm := nm) (vs := v1) (vs' := vs) hlt
  have hmo := fun v1 (H : Hp) => ohL_more (nm := nm) (vs := vs) (v1 := v1) hlt (H := H)
  have hel : (ovL nm vs 0 (l.take k)).length = k := by rw [ovL_len]; simp; omega
  obtain ⟨U, hU⟩ : ∃ U, U = ohL nm vs 0 (l.take k) := ⟨_, rfl⟩
  have hUU : hpLe U U := by rw [hU]; exact ohL_self _ _ _ _
  have hUg : ∀ p ∈ U, 10000 ≤ p.1 := by rw [hU]; exact ohL_ge
  have hUl : ∀ p ∈ U, ∃ i, i < k ∧ InT (sub nm i) p.1 := by rw [hU]; exact ohL_lt
  rw [← hU] at hmo ⊢
  clear hU
  obtain ⟨E, hE⟩ : ∃ E, E = ovL nm vs 0 (l.take k) := ⟨_, rfl⟩
  rw [← hE] at hel ho ⊢
  have hEt : List.take k E = E := List.take_of_length_le (by omega)
  simp only [oh_TypeD, ov_TypeD] at hmo ho
  generalize l[k] = t at *
  have hbt : Bulk.bulk t = Bulk.bulk t.name + Bulk.bulk t.params + Bulk.bulk t.cons + 1 := rfl
  have hcl := bulk_length t.cons
  rw [av_TypeD] at e
  obtain ⟨C0, hC0⟩ : ∃ C0, C0 = sub (sub nm k) 0 := ⟨_, rfl⟩
  have CC := CloneConR_ok C0 t.cons (by omega)
  rw [← hC0] at ho hmo
  have hKn : ∀ q, q < 10000 → (q == C0) = false := fun q hq => by rw [hC0]; exact low_beq hq
  have hKm : ∀ q, q < 10000 → (C0 = q) = False := fun q hq => eq_false fun e => by have := sub_ge (sub nm k) 0; omega
  simp +contextual -dsimp (maxSteps := 2000000) only [↓SD, SU, SB, simprocAttr, map_len, hlt, e]
  intro w5
  refine aCallH_gen [] CC (by simp +contextual -dsimp only [↓SD, SU, SB, simprocAttr]) ?_
  rintro r hp' ⟨uC, rfl, rfl⟩ H hH
  rw [hrest_no] at hH
  have hC : hget H C0 = some ⟨uC, false, 78, 3, t.cons.map av⟩ := by rw [hH]; exact hg_eq
  have hold : ∀ q, q < 10000 → hget H q = hget ([(5, ⟨w5, false, 72, 3, [.agg [.str t.name, .int .i64 t.params, .sl (t.cons.map av)]]⟩), (8, ⟨u, false, 72, 3, E⟩)] ++ U) q := fun q hq => by
   rw [hH, List.cons_append, hg_ne (fun e => by have := sub_ge (sub nm k) 0; omega)]
   simp only [List.nil_append, hget, List.cons_append]
   split <;> rfl
  have hUH : hpLe H U := by
   rw [hH]
   refine hpLe_pre ?_ fun p hp q hq e => ?_
   ·repeat (first | exact hUU | refine hpLe_c ?_ (fun p hp e => by have := hUg p hp; omega))
   ·obtain ⟨i, hi, h1⟩ := hUl p hp
    rw [List.mem_singleton.1 hq] at e
    simp only at e
    rw [← e, hC0] at h1
    have := h1.sib (InT.up (i := 0) .root)
    omega
  simp +contextual -dsimp (maxSteps := 2000000) only [↓SD, SU, SB, simprocAttr, map_len, hold, hC, hKn, hKm, List.length_map]
  refine aLoop_of (X := Nat × (Nat → Nat)) (fun x => ⟨[(3, .row 8 u k), (5, .ptr 5 w5 0 0), (9, .sl (l.map av)), (10, .int .i64 l.length), (11, .int .i64 k), (20, .row C0 uC t.cons.length), (21, .int .i64 t.cons.length), (22, .int .i64 x.1)], (8, ⟨u, false, 72, 3, E⟩) :: (5, ⟨w5, false, 72, 3, [.agg [.str t.name, .int .i64 t.params, .row C0 uC t.cons.length]]⟩) :: (C0, ⟨uC, false, 78, 3, mixO C0 x.2 t.cons x.1⟩) :: (ohL C0 x.2 0 (t.cons.take x.1) ++ U)⟩) (fun x => x.1 ≤ t.cons.length) (fun x => t.cons.length - x.1) (0, fun _ => 0) (Nat.zero_le _) (by simp +contextual -dsimp only [↓SD, SU, SB, simprocAttr]) (by
   simp +contextual -dsimp (maxSteps := 2000000) only [↓SD, SU, SB, simprocAttr, mixO_zero, List.take_zero, ohL_nil, hold, hC, hKn, hKm, List.nil_append]
   exact hpLe_c hUH (fun p hp e => by have := hUg p hp; omega)) ?_
  clear hC hold hUH hH H
  rintro ⟨j, vc⟩ hj
  dsimp only at hj ⊢
  by_cases hlj : j < t.cons.length
  ·have hg := mixO_get (nm := C0) (vs := vc) hlj .top
   have hs := fun v1 => mixO_set (nm := C0) (vs := v1) (vs' := vc) hlj
   have hlen := mixO_len (nm := C0) (vs := vc) hj
   have hmj := bulk_mem (List.getElem_mem hlj)
   have hb1 : Bulk.bulk t.cons[j] = Bulk.bulk t.cons[j].name + Bulk.bulk t.cons[j].has + Bulk.bulk t.cons[j].arg + 1 := rfl
   have hb2 : Bulk.bulk t.cons[j].arg = Bulk.bulk t.cons[j].arg.items + 1 := rfl
   have hl1 := bulk_length t.cons[j].arg.items
   have CI := CloneTyItemO_ok (sub (sub C0 j) 0) t.cons[j].arg.items (by omega)
   obtain ⟨V, hV⟩ : ∃ V, V = ohL C0 vc 0 (t.cons.take j) := ⟨_, rfl⟩
   have hVV : hpLe V V := by rw [hV]; exact ohL_self _ _ _ _
   have hVg : ∀ p ∈ V, 10000 ≤ p.1 := by rw [hV]; exact ohL_ge
   have hVl : ∀ p ∈ V, ∃ i, i < j ∧ InT (sub C0 i) p.1 := by rw [hV]; exact ohL_lt
   have hmj := fun v1 (H : Hp) => ohL_more (nm := C0) (vs := vc) (v1 := v1) hlj (H := H)
   rw [← hV] at hmj ⊢
   clear hV
   have hVU : hpLe (V ++ U) (V ++ U) := by
    refine hpLe_app.2 ⟨hpLe_l hVV, hpLe_pre hUU fun p hp q hq e => ?_⟩
    obtain ⟨i, hi, h1⟩ := hUl p hp
    obtain ⟨i2, hi2, h2⟩ := hVl q hq
    rw [hC0, e] at h2
    have := h1.sib h2.up.up
    omega
   have hWg : ∀ p ∈ V ++ U, 10000 ≤ p.1 := fun p hp => (List.mem_append.1 hp).elim (hVg p) (hUg p)
   have hWC : ∀ p ∈ V ++ U, C0 ≠ p.1 := fun p hp e => by
    rcases List.mem_append.1 hp with h | h
    ·obtain ⟨i2, hi2, h2⟩ := hVl p h
     exact h2.ne e.symm
    ·obtain ⟨i, hi, h1⟩ := hUl p h
     rw [← e, hC0] at h1
     have := h1.sib (InT.up (i := 0) .root)
     omega
   generalize mixO C0 vc t.cons j = M at *
   simp only [ov_Con, oh_Con] at hs hmj
   generalize t.cons[j] = a at *
   rw [av_Con] at hg
   simp +contextual -dsimp (maxSteps := 2000000) only [↓SD, SU, SB, simprocAttr, map_len, hlj, hg, hlen, hKn, hKm, false_and]
   intro w7
   refine ⟨?_, ?_⟩
   all_goals
    refine aCallH_gen [] CI (by simp +contextual -dsimp only [↓SD, SU, SB, simprocAttr]) ?_
    rintro r hp' ⟨v1, rfl, rfl⟩ H hH
    rw [hrest_no] at hH
    have hold := old_get hH
    have ho2 : hpLe H (oh (sub (sub C0 j) 0) v1 a.arg.items) := by rw [hH]; exact hpLe_l (OVal.self _ _ _)
    have hCn : ¬ InT (sub (sub C0 j) 0) C0 := fun h => h.up.ne rfl
    have hHC : hget H C0 = some ⟨uC, false, 78, 3, M⟩ := by
     rw [hH, hg_app_r (oh_ne hCn)]
     simp only [hget, hKm, eq_comm, if_false, if_true]
     first | rfl | simp [hget, eq_comm, hKm]
    have hWH : hpLe H (V ++ U) := by
     rw [hH]
     refine hpLe_pre ?_ fun p hp q hq e => ?_
     ·repeat (first | exact hVU | refine hpLe_c ?_ (fun p hp e => by have := hWg p hp; omega) | refine hpLe_c ?_ hWC)
     ·have h2 := (OVal.inh hq).up
      rw [e] at h2
      rcases List.mem_append.1 hp with h | h
      ·obtain ⟨i, hi, h1⟩ := hVl p h
       have := h1.sib h2
       omega
      ·obtain ⟨i, hi, h1⟩ := hUl p h
       have h3 := h2.up
       rw [hC0] at h3
       have := h1.sib h3.up
       omega
    simp +contextual -dsimp (maxSteps := 2000000) only [↓SD, SU, SB, simprocAttr, map_len, ov_list, hlj, hg, hlen, hold, hHC, hKn, hKm, false_and]
    refine ⟨by omega, Goes.le ⟨(j + 1, glue (sub C0 j) v1 vc), ⟨hlj, (by first | omega | (simp only; omega))⟩, rfl⟩ (by simp +contextual -dsimp only [↓SD, SU, SB, simprocAttr, Int.natCast_add]) ?_⟩
    have hs1 := hs v1
    simp only [← hs1]
    simp +contextual -dsimp (maxSteps := 2000000) only [↓SD, SU, SB, simprocAttr, hold, hKm]
    have hC1 : 10000 ≤ C0 := by rw [hC0]; exact sub_ge _ _
    refine ⟨(by rw [hg_ne (by omega), hold 8 (by omega)]; rfl), (by rw [hg_ne (by omega), hold 5 (by omega)]; rfl), ?_⟩
    exact hpLe_app.2 ⟨hpLe_c (hmj v1 H (hpLe_app.1 hWH).1 ho2) (fun p hp e => by obtain ⟨i2, _, h2⟩ := ohL_in hp; exact h2.ne e.symm), hpLe_c (hpLe_app.1 hWH).2 (fun p hp => hWC p (List.mem_append_right _ hp))⟩
  ·obtain rfl : j = t.cons.length := by omega
   rw [List.take_length, mixO_all]
   obtain ⟨vT, hvT⟩ : ∃ vT : Nat → Nat, vT = glue C0 (fun q => if q = C0 then uC else vc q) vc := ⟨_, rfl⟩
   have hfull := oh_full (nm := C0) (vs := vc) (v' := uC) t.cons
   rw [← hvT, ov_list] at hfull
   have hCv : vT C0 = uC := by have := hfull.1; cases this; rfl
   have hVV : hpLe (ohL C0 vc 0 t.cons) (ohL C0 vc 0 t.cons) := ohL_self _ _ _ _
   have hVg : ∀ p ∈ ohL C0 vc 0 t.cons, 10000 ≤ p.1 := ohL_ge
   have hVC : ∀ p ∈ ohL C0 vc 0 t.cons, C0 ≠ p.1 := fun p hp e => by obtain ⟨i2, _, h2⟩ := ohL_in hp; exact h2.ne e.symm
   have hUC : ∀ p ∈ U, C0 ≠ p.1 := fun p hp e => by
    obtain ⟨i, hi, h1⟩ := hUl p hp
    rw [← e, hC0] at h1
    have := h1.sib (InT.up (i := 0) .root)
    omega
   have hVU : hpLe (ohL C0 vc 0 t.cons ++ U) U := hpLe_pre hUU fun p hp q hq e => by
    obtain ⟨i, hi, h1⟩ := hUl p hp
    obtain ⟨i2, hi2, h2⟩ := ohL_in hq
    rw [hC0, e] at h2
    have := h1.sib h2.up.up
    omega
   have ho1 := ho vT
   rw [hCv] at ho1
   have hm1 := hmo vT
   rw [hfull.2] at hm1
   generalize ohL C0 vc 0 t.cons = V at *
   obtain ⟨R, hR⟩ : ∃ R, R = (C0, (⟨uC, false, 78, 3, ovL C0 vc 0 t.cons⟩ : Box)) :: (V ++ U) := ⟨_, rfl⟩
   have hRU : hpLe R U := by rw [hR]; exact hpLe_c hVU hUC
   have hRV : hpLe R (V ++ [(C0, ⟨uC, false, OVal.ty Con, AVal.n Con, ovL C0 vc 0 t.cons⟩)]) := by
    rw [hR]
    exact hpLe_app.2 ⟨hpLe_c (hpLe_l hVV) hVC, hg_eq, trivial⟩
   have hRC : hget R C0 = some ⟨uC, false, 78, 3, ovL C0 vc 0 t.cons⟩ := by rw [hR]; exact hg_eq
   rw [← hR]
   simp +contextual -dsimp (maxSteps := 2000000) only [↓SD, SU, SB, simprocAttr, Nat.lt_irrefl, hel, hEt, hKn, hKm, hRC, false_and]
   refine ⟨⟨by omega, by unfold maxLen; omega⟩, fun w => ⟨by omega, Goes.le ⟨(k + 1, w, glue (sub nm k) vT vs), ⟨hlt, (by first | omega | (simp only; omega))⟩, rfl⟩ (by simp +contextual -dsimp only [↓SD, SU, SB, simprocAttr, Int.natCast_add]) ?_⟩⟩
   simp only [ho1]
   simp +contextual -dsimp (maxSteps := 2000000) only [↓SD, SU, SB, simprocAttr]
   have hlow : ∀ (j : Nat) (b : Box) (hp : Hp), j < 10000 → hpLe hp (ohL nm (glue (sub nm k) vT vs) 0 (l.take (k + 1))) → hpLe ((j, b) :: hp) (ohL nm (glue (sub nm k) vT vs) 0 (l.take (k + 1))) := fun j b hp hj h => hpLe_c h fun p hp e => by have := ohL_ge p hp; omega
   refine hlow _ _ _ (by omega) (hlow _ _ _ (by omega) (hlow _ _ _ (by omega) (hm1 R hRU hRV)))
 ·obtain rfl : k = l.length := by omega
  rw [List.take_length]
  obtain ⟨H, hH⟩ : ∃ H, H = ((8, ⟨u, false, 72, 3, ovL nm vs 0 l⟩) :: ohL nm vs 0 l : Hp) := ⟨_, rfl⟩
  rw [← hH]
  simp +contextual -dsimp (maxSteps := 2000000) only [↓SD, SU, SB, simprocAttr, map_len, Nat.lt_irrefl]
  rw [hH]
  refine Goes.ren 2 8 nm (v := u) (n := l.length) rfl hg_eq rfl fun v' => ?_
  obtain ⟨H', hH'⟩ : ∃ H', H' = ((nm, ⟨v', false, 72, 3, ovL nm vs 0 l⟩) :: hrest [8] ((8, ⟨u, false, 72, 3, ovL nm vs 0 l⟩) :: ohL nm vs 0 l) : Hp) := ⟨_, rfl⟩
  have hr : hget H' nm = some ⟨v', false, 72, 3, ovL nm vs 0 l⟩ := by rw [hH']; exact hg_eq
  have hle := full_le (α := TypeD) (nm := nm) (j := 8) (l := l) (vs := vs) (by omega) hH'
  dsimp only
  rw [← hH']
  refine Goes.post (oh nm (glue nm (fun k => if k = nm then v' else vs k) vs) l) ?_
  simp +contextual -dsimp (maxSteps := 2000000) only [↓SD, SU, SB, simprocAttr, hr, false_and]
  exact ⟨hle, _, (oh_full l).1.symm, rfl⟩
end Go.Proofs.YtmlckdffkbbbhaaGreat

namespace Go.Proofs.YtmlckdffkbbbhaaGreat
open Go.RowKit Go.Proofs.YtmlckdffkbbbhaaGreat.Av Go.Proofs.YtmlckdffkbbbhaaGreat.Ml
open Go.Proofs.YtmlckdffkbbbhaaGreat.Av.AVal (av)
open OVal (ov oh on)

def growO (G : List AV) (x : AV) (hp : Hp) : Prop := (G = [] ∧ x = .nils ∧ hp = []) ∨ ∃ v, x = .row 29 v G.length ∧ hp = [(29, ⟨v, false, 45, 6, G⟩)]
def FlatPostT (nm : Nat) (G : List AV) (t : Tr) (r : AV) (hp' : Hp) : Prop := ∃ v vs, r = .tup [.row 29 v (G.length + t.size), .int .i64 G.length] ∧ hp' = (29, ⟨v, false, 45, 6, G ++ ovL nm vs G.length (layT G.length t)⟩) :: ohL nm vs G.length (layT G.length t)
structure FtS where
 j : Nat
 v : Nat
 u : Nat
 vs : Nat → Nat
set_option maxHeartbeats 4000000 in
theorem flatO_ok (nm : Nat) : ∀ (t : Tr), t.ok → ∀ (G : List AV) (x : AV) (hp : Hp), growO G x hp → G.length + t.size ≤ 1048576 → CallsH Tryz.prog 59 [x, av t] hp (FlatPostT nm G t) := by
 refine Tr.ind fun n ks ih hok G x hp hx hb => ?_
 rw [Tr.ok] at hok
 obtain ⟨⟨ht3, ht13, hbn⟩, hoks⟩ := hok
 have ec : (Tr.mk n ks).size = Tr.sizes ks + 1 := by rw [Tr.size]
 rw [ec] at hb
 have hkl := sizes_len ks
 have hbp : Bulk.bulk n.pats ≤ Bulk.bulk n := by simp only [Bulk.bulk]; omega
 have hpl := bulk_length n.pats
 obtain ⟨P, hP⟩ : ∃ P, P = sub (sub nm G.length) 1 := ⟨_, rfl⟩
 have CP := copyPatsO_ok P n.pats (by omega)
 have hPn : ∀ q, q < 10000 → (q == P) = false := fun q hq => by rw [hP]; exact low_beq hq
 have hPg : 10000 ≤ P := by rw [hP]; exact sub_ge _ _
 have hPm : ∀ q, q < 10000 → (P = q) = False := fun q hq => eq_false fun e => by omega
 refine funH_impl_flat_O rfl ?_
 obtain ⟨N0, hN0⟩ : ∃ N0 : Nat → AV, N0 = fun v => .agg [.int .i64 n.kind, .int .i64 n.pos, .int .i64 n.n, .str n.s, .nils, .row P v n.pats.length] := ⟨_, rfl⟩
 rcases hx with ⟨hG0, rfl, rfl⟩ | ⟨v, rfl, rfl⟩
 case' inl =>
  have hG1 : G.length = 0 := by rw [hG0]; rfl
  simp +contextual -dsimp (maxSteps := 2000000) only [↓SD, SU, SB, simprocAttr, ir_impl_flat_O, rs_impl_flat_O, av_Tr, map_len]
  refine aCallH_gen [] CP (by simp +contextual -dsimp only [↓SD, SU, SB, simprocAttr]) ?_
  rintro r hp' ⟨vp, rfl, rfl⟩ H hH
  rw [hrest_no, List.append_nil] at hH
  have hoP : hpLe H (oh P vp n.pats) := by rw [hH]; exact OVal.self _ _ _
  have hr1 := hpLe_root hoP
  simp +contextual -dsimp (maxSteps := 2000000) only [↓SD, SU, SB, simprocAttr, ov_list, map_len, hr1, hPn, hPm, false_and]
  refine ⟨by unfold maxLen; omega, fun v1 v2 => ?_⟩
  refine aLoop_of (X := FtS) (fun q => ⟨[(0, .row 29 q.v (G.length + 1 + Tr.sizes (ks.take q.j))), (6, .int .i64 G.length), (7, .row 30 q.u q.j), (43, .sl (ks.map av)), (44, .int .i64 ks.length), (45, .int .i64 q.j)], (29, ⟨q.v, false, 45, 6, G ++ [N0 (vp P)] ++ ovL nm q.vs (G.length + 1) (layTs (G.length + 1) (ks.take q.j))⟩) :: (30, ⟨q.u, false, 3, 1, (kidT (G.length + 1) (ks.take q.j)).map av⟩) :: (oh P vp n.pats ++ ohL nm q.vs (G.length + 1) (layTs (G.length + 1) (ks.take q.j)))⟩) (fun q => q.j ≤ ks.length) (fun q => ks.length - q.j) ⟨0, v1, v2, fun _ => 0⟩ (Nat.zero_le _) (by simp +contextual -dsimp only [↓SD, SU, SB, simprocAttr, List.take_zero, Tr.sizes, hG1]) (by
   simp +contextual -dsimp (maxSteps := 2000000) only [↓SD, SU, SB, simprocAttr, List.take_zero, layTs, kidT, List.map_nil, List.append_nil, hG0, hN0, ovL, ohL]
   exact hpLe_c (hpLe_c hoP (fun p hp e => by have := (OVal.inh hp).le; omega)) (fun p hp e => by have := (OVal.inh hp).le; omega)) ?_
 case' inr =>
  have t0 : List.take G.length G = G := List.take_length
  simp +contextual -dsimp (maxSteps := 2000000) only [↓SD, SU, SB, simprocAttr, ir_impl_flat_O, rs_impl_flat_O, av_Tr, map_len, t0]
  refine aCallH_gen [] CP (by simp +contextual -dsimp only [↓SD, SU, SB, simprocAttr]) ?_
  rintro r hp' ⟨vp, rfl, rfl⟩ H hH
  rw [hrest_no] at hH
  have hoP : hpLe H (oh P vp n.pats) := by rw [hH]; exact hpLe_l (OVal.self _ _ _)
  have hr1 := hpLe_root hoP
  have hold : ∀ q, q < 10000 → hget H q = hget [(29, ⟨v, false, 45, 6, G⟩)] q := fun q hq => by
   rw [hH, hg_app_r (oh_ne fun h => by have := h.le; omega)]
  simp +contextual -dsimp (maxSteps := 2000000) only [↓SD, SU, SB, simprocAttr, ov_list, map_len, hr1, hold, hPn, hPm, t0, false_and]
  refine ⟨⟨by omega, by unfold maxLen; omega⟩, fun v1 v2 => ?_⟩
  refine aLoop_of (X := FtS) (fun q => ⟨[(0, .row 29 q.v (G.length + 1 + Tr.sizes (ks.take q.j))), (6, .int .i64 G.length), (7, .row 30 q.u q.j), (43, .sl (ks.map av)), (44, .int .i64 ks.length), (45, .int .i64 q.j)], (29, ⟨q.v, false, 45, 6, G ++ [N0 (vp P)] ++ ovL nm q.vs (G.length + 1) (layTs (G.length + 1) (ks.take q.j))⟩) :: (30, ⟨q.u, false, 3, 1, (kidT (G.length + 1) (ks.take q.j)).map av⟩) :: (oh P vp n.pats ++ ohL nm q.vs (G.length + 1) (layTs (G.length + 1) (ks.take q.j)))⟩) (fun q => q.j ≤ ks.length) (fun q => ks.length - q.j) ⟨0, v1, v2, fun _ => 0⟩ (Nat.zero_le _) (by simp +contextual -dsimp only [↓SD, SU, SB, simprocAttr, List.take_zero, Tr.sizes]) (by
   simp +contextual -dsimp (maxSteps := 2000000) only [↓SD, SU, SB, simprocAttr, List.take_zero, layTs, kidT, List.map_nil, List.append_nil, hN0, ovL, ohL]
   exact hpLe_c (hpLe_c hoP (fun p hp e => by have := (OVal.inh hp).le; omega)) (fun p hp e => by have := (OVal.inh hp).le; omega)) ?_
  clear hold
 all_goals
  clear hr1 hoP hH H
  obtain ⟨W, hW⟩ : ∃ W, W = oh P vp n.pats := ⟨_, rfl⟩
  have hWW : hpLe W W := by rw [hW]; exact OVal.self _ _ _
  have hWi : ∀ p ∈ W, InT P p.1 := by rw [hW]; exact fun p hp => OVal.inh hp
  have hWg : ∀ p ∈ W, 10000 ≤ p.1 := fun p hp => by have := (hWi p hp).le; omega
  have hWs : ∀ p ∈ W, InT (sub nm G.length) p.1 := fun p hp => by have h := hWi p hp; rw [hP] at h; exact h.up
  have hN0f := congrFun hN0 (vp P)
  rw [← hW]
  rintro ⟨j, a, b, vs⟩ hj
  dsimp only at hj ⊢
  by_cases hlt : j < ks.length
  ·have e1 := getD_map av ks j .top hlt
   have b2 := sizes_take ks j hlt
   have ht : ks.take (j + 1) = ks.take j ++ [ks[j]] := List.take_succ_eq_append_getElem hlt
   have hpx : G.length + 1 + Tr.sizes (ks.take (j + 1)) = G.length + 1 + Tr.sizes (ks.take j) + (ks[j]).size := by rw [ht, sizes_app]; omega
   have hfl := layTs_len' (G.length + 1) (ks.take j)
   have hkp := kidT_len (G.length + 1) (ks.take j)
   rw [List.length_take, Nat.min_eq_left hj] at hkp
   have hL : (G ++ [N0 (vp P)] ++ ovL nm vs (G.length + 1) (layTs (G.length + 1) (ks.take j))).length = G.length + 1 + Tr.sizes (ks.take j) := by simp [hfl, ovL_len]; omega
   have C := ih ks[j] (List.getElem_mem hlt) (oks_mem hoks (List.getElem_mem hlt)) (G ++ [N0 (vp P)] ++ ovL nm vs (G.length + 1) (layTs (G.length + 1) (ks.take j))) (.row 29 a (G.length + 1 + Tr.sizes (ks.take j))) [(29, ⟨a, false, 45, 6, G ++ [N0 (vp P)] ++ ovL nm vs (G.length + 1) (layTs (G.length + 1) (ks.take j))⟩)] (.inr ⟨a, by rw [hL], rfl⟩) (by rw [hL]; omega)
   unfold FlatPostT at C
   rw [hL] at C
   have hsn : layTs (G.length + 1) (ks.take (j + 1)) = layTs (G.length + 1) (ks.take j) ++ layT (G.length + 1 + Tr.sizes (ks.take j)) ks[j] := by rw [ht, layTs_snoc]
   have hks : (kidT (G.length + 1) (ks.take (j + 1))).map (av : Int → AV) = (kidT (G.length + 1) (ks.take j)).map av ++ [.int .i64 ((G.length : Int) + 1 + (Tr.sizes (ks.take j) : Int))] := by rw [ht, kidT_snoc, List.map_append]; rfl
   have hkm : ((kidT (G.length + 1) (ks.take j)).map (av : Int → AV)).length = j := by rw [List.length_map, hkp]
   have hkt : List.take j ((kidT (G.length + 1) (ks.take j)).map (av : Int → AV)) = (kidT (G.length + 1) (ks.take j)).map av := List.take_of_length_le (by rw [hkm]; exact Nat.le_refl _)
   generalize (kidT (G.length + 1) (ks.take j)).map (av : Int → AV) = KP at *
   generalize hX : layTs (G.length + 1) (ks.take j) = X at *
   generalize hY : layT (G.length + 1 + Tr.sizes (ks.take j)) ks[j] = Y at *
   have hgl := fun vs1 => glueR_app (nm := nm) vs1 vs (G.length + 1) X Y
   rw [hfl] at hgl
   generalize hN : Tr.sizes (ks.take j) = N at *
   obtain ⟨Q, hQ⟩ : ∃ Q, Q = G ++ [N0 (vp P)] ++ ovL nm vs (G.length + 1) X := ⟨_, rfl⟩
   rw [← hQ] at C ⊢
   simp +contextual -dsimp (maxSteps := 2000000) only [↓SD, SU, SB, simprocAttr, hlt, map_len, e1, tr_cells, tr_pur, tr_pur1, tr_purA, tr_one, tr_ok]
   refine aCallH_gen [29] C (by simp +contextual -dsimp only [↓SD, SU, SB, simprocAttr, tr_purA, false_and]) ?_
   rintro r hp' ⟨w, vs1, rfl, rfl⟩ H hH
   have hYn : ∀ p ∈ ohL nm vs1 (G.length + 1 + N) Y, ∃ i, G.length + 1 + N ≤ i ∧ InT (sub nm i) p.1 := fun p hp => ohL_in hp
   have h30 : hget H 30 = some ⟨b, false, 3, 1, KP⟩ := by
    rw [hH, List.cons_append, hg_ne (by decide), hg_app, ohL_far (by decide)]
    show hget (hrest [29] _) 30 = _
    rw [hget_rest_out (by decide), hg_ne (by decide), hg_eq]
   have h29 : hget H 29 = some ⟨w, false, 45, 6, Q ++ ovL nm vs1 (G.length + 1 + N) Y⟩ := by rw [hH]; exact hg_eq
   have hlast : ∀ bx, hpLe ((30, bx) :: H) (W ++ (ohL nm vs (G.length + 1) X ++ ohL nm vs1 (G.length + 1 + N) Y)) := fun bx => by
    refine hpLe_app.2 ⟨hpLe_iff.2 fun p hp => ?_, ?_⟩
    ·have hge := hWg p hp
     rw [hg_ne (by omega), hH, List.cons_append, hg_ne (by omega), hg_app_r (fun q hq e => by
      obtain ⟨i, hi, h1⟩ := hYn q hq
      rw [e] at h1
      have := h1.sib (hWs p hp)
      omega), hget_rest_out (by simp; omega), hg_ne (by omega), hg_ne (by omega)]
     exact hg_app_l (hpLe_iff.1 hWW p hp)
    ·have h1 := parts_app (nm := nm) (vs := vs1) (vs' := vs) (a := X) (b := Y) (i := G.length + 1) (m := G.length + 1 + N) (s := hrest [29] ((29, ⟨a, false, 45, 6, Q⟩) :: (30, ⟨b, false, 3, 1, KP⟩) :: (W ++ ohL nm vs (G.length + 1) X))) (by omega) (fun p hp => by
      obtain ⟨i, hi, hq⟩ := ohL_in hp
      have hge := hq.ge
      rw [hget_rest_out (by simp; omega), hg_ne (by omega), hg_ne (by omega), hg_app_r (fun q hq' e => by
       have h1 := hWs q hq'
       rw [e] at h1
       have := h1.sib hq
       omega)]
      exact hpLe_iff.1 (ohL_self nm vs _ X) p hp)
     refine hpLe_iff.2 fun p hp => ?_
     have hge : 10000 ≤ p.1 := by
      rcases List.mem_append.1 hp with h | h
      ·exact ohL_ge p h
      ·exact ohL_ge p h
     rw [hg_ne (by omega), hH, List.cons_append, hg_ne (by omega)]
     exact hpLe_iff.1 h1 p hp
   simp +contextual -dsimp (maxSteps := 2000000) only [↓SD, SU, SB, simprocAttr, hkm, hkt, Int.natCast_add, h30, h29]
   refine ⟨⟨by omega, by unfold maxLen; omega⟩, fun v => ⟨by omega, Goes.le ⟨⟨j + 1, w, v, glueR nm (G.length + 1 + N) vs1 vs⟩, ⟨hlt, (by first | omega | (simp only; omega))⟩, rfl⟩ (by simp +contextual -dsimp only [↓SD, SU, SB, simprocAttr, Int.natCast_add, hpx]) ?_⟩⟩
   rw [hsn, (hgl vs1).1, (hgl vs1).2, ← List.append_assoc, ← hQ, hks]
   simp +contextual -dsimp (maxSteps := 2000000) only [↓SD, SU, SB, simprocAttr, h29]
   exact hlast _
  ·obtain rfl : j = ks.length := by omega
   rw [List.take_length]
   have hkp := kidT_len (G.length + 1) ks
   have hfl := layTs_len' (G.length + 1) ks
   have hfx : layT G.length (.mk n ks) = { n with kids := kidT (G.length + 1) ks } :: layTs (G.length + 1) ks := by rw [layT]
   have hL : (G ++ [N0 (vp P)] ++ ovL nm vs (G.length + 1) (layTs (G.length + 1) ks)).length = G.length + 1 + Tr.sizes ks := by simp [hfl, ovL_len]; omega
   have hG : (G ++ [N0 (vp P)] ++ ovL nm vs (G.length + 1) (layTs (G.length + 1) ks)).getD G.length .top = N0 (vp P) := by simp [List.getD_eq_getElem?_getD]
   have hS : ∀ x, (G ++ [N0 (vp P)] ++ ovL nm vs (G.length + 1) (layTs (G.length + 1) ks)).set G.length x = G ++ x :: ovL nm vs (G.length + 1) (layTs (G.length + 1) ks) := fun x => by
    simp [List.set_append]
   have hlt2 : (G.length : Int) < (G.length : Int) + 1 + (Tr.sizes ks : Int) := by omega
   have hlt3 : G.length < G.length + 1 + Tr.sizes ks := by omega
   generalize hX : layTs (G.length + 1) ks = X at *
   obtain ⟨Q, hQ⟩ : ∃ Q, Q = G ++ [N0 (vp P)] ++ ovL nm vs (G.length + 1) X := ⟨_, rfl⟩
   rw [← hQ] at hL hG hS ⊢
   rw [hN0f] at hG
   obtain ⟨KP, hKP⟩ : ∃ KP, KP = kidT (G.length + 1) ks := ⟨_, rfl⟩
   rw [← hKP] at hkp hfx ⊢
   simp +contextual -dsimp (maxSteps := 2000000) only [↓SD, SU, SB, simprocAttr, Nat.lt_irrefl]
   obtain ⟨K, hK⟩ : ∃ K, K = sub (sub nm G.length) 0 := ⟨_, rfl⟩
   have hKg : 10000 ≤ K := by rw [hK]; exact sub_ge _ _
   have hKi : InT (sub nm G.length) K := by rw [hK]; exact InT.up (i := 0) .root
   have hKW : ∀ p ∈ W, K ≠ p.1 := fun p hp e => by
    have h1 := hWi p hp
    rw [← e, hP, hK] at h1
    have := h1.sib .root
    omega
   have hKX : ∀ p ∈ ohL nm vs (G.length + 1) X, K ≠ p.1 := fun p hp e => by
    obtain ⟨i, hi, h1⟩ := ohL_in hp
    rw [← e] at h1
    have := h1.sib hKi
    omega
   refine ghost_of (Goes.ren 7 30 K (v := b) (n := ks.length) rfl (by rw [hg_ne (by decide)]; exact hg_eq) rfl fun v' => Goes.here ?_)
   obtain ⟨H, hH⟩ : ∃ H, H = ((K, (⟨v', false, 3, 1, KP.map av⟩ : Box)) :: hrest [30] ((29, ⟨a, false, 45, 6, Q⟩) :: (30, ⟨b, false, 3, 1, KP.map av⟩) :: (W ++ ohL nm vs (G.length + 1) X)) : Hp) := ⟨_, rfl⟩
   dsimp only
   rw [← hH]
   have h29 : hget H 29 = some ⟨a, false, 45, 6, Q⟩ := by
    rw [hH, hg_ne (by omega), hget_rest_out (by decide), hg_eq]
   obtain ⟨va, hva⟩ : ∃ va : Nat → Nat, va = glueR nm (G.length + 1) vs (fun q => if q = K then v' else vp q) := ⟨_, rfl⟩
   have hvo : ∀ q, InT (sub nm G.length) q → va q = if q = K then v' else vp q := fun q hq => by
    rw [hva]
    exact if_neg (fun ⟨i, hi, hin⟩ => by have := hin.sib hq; omega)
   have hvK : va K = v' := by rw [hvo K hKi, if_pos rfl]
   have hvP := OVal.vdep P va vp n.pats (fun q hq => by
    rw [hvo q (by rw [hP] at hq; exact hq.up), if_neg (fun e => by
     rw [e, hP, hK] at hq
     have := hq.sib .root
     omega)])
   have hvPP : va P = vp P := by have := hvP.1; rw [ov_list, ov_list] at this; exact (AV.row.inj this).2.1
   have hg3 := glueR_hi (nm := nm) (m := G.length + 1) vs (fun q => if q = K then v' else vp q) (G.length + 1) X (Nat.le_refl _)
   rw [← hva] at hg3
   have hov : ovL nm va G.length (layT G.length (.mk n ks)) = .agg [.int .i64 n.kind, .int .i64 n.pos, .int .i64 n.n, .str n.s, .row K v' ks.length, .row P (vp P) n.pats.length] :: ovL nm vs (G.length + 1) X := by
    rw [hfx, ovL, hg3.1, ov_Node, ← hK, ← hP, hvK, hvPP, ← hkp]
   have hoh : ohL nm va G.length (layT G.length (.mk n ks)) = (K, ⟨v', false, 3, 1, KP.map av⟩) :: (W ++ ohL nm vs (G.length + 1) X) := by
    rw [hfx, ohL, hg3.2, oh_Node, ← hK, ← hP, oh_ints, hvK, hvP.2, ← hW]; simp only [List.append_assoc, List.cons_append, List.nil_append]
   simp +contextual -dsimp (maxSteps := 2000000) only [↓SD, SU, SB, simprocAttr, h29, hL, hG, hS, hlt2, hlt3, Nat.le_refl]
   refine Goes.post ((29, ⟨a, false, 45, 6, G ++ ovL nm va G.length (layT G.length (.mk n ks))⟩) :: ohL nm va G.length (layT G.length (.mk n ks))) ?_
   rw [hov, hoh]
   have hWX : hpLe (W ++ ohL nm vs (G.length + 1) X) (W ++ ohL nm vs (G.length + 1) X) := hpLe_app.2 ⟨hpLe_l hWW, hpLe_pre (ohL_self _ _ _ _) fun p hp q hq e => by
    have h1 := hWs q hq
    obtain ⟨i, hi, h2⟩ := ohL_in hp
    rw [e] at h1
    have := h1.sib h2
    omega⟩
   have hlast : ∀ bx, hpLe ((29, bx) :: H) ((K, ⟨v', false, 3, 1, KP.map av⟩) :: (W ++ ohL nm vs (G.length + 1) X)) := fun bx => by
    refine hpLe_iff.2 fun p hp => ?_
    rcases List.mem_cons.1 hp with e | e
    ·subst e
     rw [hg_ne (by simp only; omega), hH]; exact hg_eq
    ·have hge : 10000 ≤ p.1 := (List.mem_append.1 e).elim (hWg p) (ohL_ge p)
     have hne : K ≠ p.1 := (List.mem_append.1 e).elim (hKW p) (hKX p)
     rw [hg_ne (by omega), hH, hg_ne hne, hget_rest_out (by simp; omega), hg_ne (by omega), hg_ne (by omega)]
     exact hpLe_iff.1 hWX p e
   simp +contextual -dsimp (maxSteps := 2000000) only [↓SD, SU, SB, simprocAttr, false_and]
   have hl2 := hlast ⟨a, false, 45, 6, G ++ .agg [.int .i64 n.kind, .int .i64 n.pos, .int .i64 n.n, .str n.s, .row K v' ks.length, .row P (vp P) n.pats.length] :: ovL nm vs (G.length + 1) X⟩
   rw [hpLe_cons] at hl2
   exact ⟨hl2, a, va, by rw [ec]; exact congrArg (fun z => AV.tup [.row 29 a z, .int .i64 G.length]) (by omega), by rw [hov, hoh]⟩
theorem programOfO_ok (nm : Nat) (ty : List TypeD) (t : Tr) (hok : t.ok) (hb : t.size ≤ 1048576) (hx : Bulk.bulk ty ≤ 1048576) : CallsH Tryz.prog 26 [.sl (ty.map av), av t] [] (ToPost nm (⟨ty, layT 0 t⟩ : Program)) := by
 have CF := flatO_ok (sub nm 1) t hok [] .nils [] (.inl ⟨rfl, rfl, rfl⟩) (by simpa using hb)
 unfold FlatPostT at CF
 have hl := layT_len t 0
 simp only [List.length_nil, List.nil_append, Nat.zero_add] at CF
 rw [← hl] at CF
 have CT := copyTypesO_ok (sub nm 0) ty hx
 generalize layT 0 t = L at *
 refine callsH_goes (Post := fun r hp' => ∃ v vs vt, r = .agg [.row (sub nm 0) (vt (sub nm 0)) ty.length, .row 29 v L.length] ∧ hp' = oh (sub nm 0) vt ty ++ ((29, ⟨v, false, 45, 6, ovL (sub nm 1) vs 0 L⟩) :: ohL (sub nm 1) vs 0 L)) (funH_impl_programOf_O rfl ?_) ?_
 case refine_2 =>
  rintro r hp' ⟨v, vs, vt, rfl, rfl⟩
  have hb29 : hget (oh (sub nm 0) vt ty ++ ((29, ⟨v, false, 45, 6, ovL (sub nm 1) vs 0 L⟩) :: ohL (sub nm 1) vs 0 L)) 29 = some ⟨v, false, 45, 6, ovL (sub nm 1) vs 0 L⟩ := by
   rw [hg_app_r (oh_ne fun h => by have := h.ge; omega)]; exact hg_eq
  refine Goes.renA 0 1 29 (sub nm 1) (v := v) (n := L.length) rfl rfl hb29 rfl fun v' => ?_
  obtain ⟨va, hva⟩ : ∃ va : Nat → Nat, va = glue (sub nm 0) vt (glue (sub nm 1) (fun k => if k = sub nm 1 then v' else vs k) vs) := ⟨_, rfl⟩
  have hne : ∀ k, InT (sub nm 1) k → ¬ InT (sub nm 0) k := fun k h => sib_ne (by omega) h
  have e1 : oh (sub nm 0) va ty = oh (sub nm 0) vt ty := by rw [hva, oh_glue]
  have e2 : oh (sub nm 1) va L = ohL (sub nm 1) vs 0 L ++ [(sub nm 1, ⟨v', false, OVal.ty Node, AVal.n Node, ovL (sub nm 1) vs 0 L⟩)] := by rw [hva, oh_glue' _ _ _ hne, (oh_full L).2]
  have e3 : va (sub nm 0) = vt (sub nm 0) := by rw [hva, glue_in .root]
  have e4 : va (sub nm 1) = v' := by rw [hva, glue_out (hne _ .root), glue_in .root, if_pos rfl]
  refine Goes.le (t := ⟨[(0, .agg [.row (sub nm 0) (vt (sub nm 0)) ty.length, .row (sub nm 1) v' L.length])], oh (sub nm 0) vt ty ++ (ohL (sub nm 1) vs 0 L ++ [(sub nm 1, ⟨v', false, OVal.ty Node, AVal.n Node, ovL (sub nm 1) vs 0 L⟩)])⟩) ⟨va, by rw [ov_Program, e3, e4]; rfl, by rw [oh_Program, e1, e2]⟩ (by simp +contextual -dsimp only [↓SD, SU, SB, simprocAttr]) ?_
  refine hpLe_app.2 ⟨hpLe_iff.2 fun p hp => ?_, hpLe_app.2 ⟨hpLe_iff.2 fun p hp => ?_, hg_eq, trivial⟩⟩
  ·have hin := OVal.inh hp
   have hge := hin.ge
   rw [hg_ne (fun e : sub nm 1 = p.1 => hne _ .root (by rw [e]; exact hin)), hget_rest_out (by simp; omega)]
   exact hg_app_l (hpLe_iff.1 (OVal.self _ _ _) p hp)
  ·obtain ⟨q, _, hq⟩ := ohL_in hp
   have hge := hq.ge
   rw [hg_ne (fun e => hq.ne e.symm), hget_rest_out (by simp; omega), hg_app_r (oh_ne (hne _ hq.up)), hg_ne (by omega)]
   exact hpLe_iff.1 (ohL_self _ _ _ _) p hp
 simp +contextual -dsimp (maxSteps := 2000000) only [↓SD, SU, SB, simprocAttr, ir_impl_programOf_O, rs_impl_programOf_O, tr_purA]
 intro v4
 refine aCallH_gen [] CF (by simp +contextual -dsimp only [↓SD, SU, SB, simprocAttr]) ?_
 rintro r hp' ⟨v, vs, rfl, rfl⟩ H hH
 rw [hrest_no] at hH
 have h29 : hget H 29 = some ⟨v, false, 45, 6, ovL (sub nm 1) vs 0 L⟩ := by rw [hH]; exact hg_eq
 have h4 : hget H 4 = some ⟨v4, false, 30, 2, [.agg [.nils, .nils]]⟩ := by
  rw [hH, List.cons_append, hg_ne (by decide), hg_app_r (fun p hp => by have := ohL_ge p hp; omega)]; exact hg_eq
 have hHL : hpLe H (ohL (sub nm 1) vs 0 L) := by
  rw [hH]
  exact hpLe_c (hpLe_l (ohL_self _ _ _ _)) (fun p hp e => by have := ohL_ge p hp; omega)
 simp +contextual -dsimp (maxSteps := 2000000) only [↓SD, SU, SB, simprocAttr]
 refine aCallH_gen [] CT (by simp +contextual -dsimp only [↓SD, SU, SB, simprocAttr]) ?_
 rintro r hp' ⟨vt, rfl, rfl⟩ H2 hH2
 rw [hrest_no] at hH2
 have hold := old_get hH2
 have hoT : hpLe H2 (oh (sub nm 0) vt ty) := by rw [hH2]; exact hpLe_l (OVal.self _ _ _)
 have hr := hpLe_root hoT
 have hHL2 : hpLe H2 (ohL (sub nm 1) vs 0 L) := by
  rw [hH2]
  exact hpLe_pre hHL fun p hp q hq e => by
   obtain ⟨i, _, h1⟩ := ohL_in hp
   exact sib_ne (i := 1) (j := 0) (by omega) h1.up (e ▸ OVal.inh hq)
 simp +contextual -dsimp (maxSteps := 2000000) only [↓SD, SU, SB, simprocAttr, ov_list, hold, h29, h4, hr, low_beq, false_and]
 refine Goes.post (oh (sub nm 0) vt ty ++ ((29, ⟨v, false, 45, 6, ovL (sub nm 1) vs 0 L⟩) :: ohL (sub nm 1) vs 0 L)) ?_
 simp +contextual -dsimp (maxSteps := 2000000) only [↓SD, SU, SB, simprocAttr, hold, h29, h4, hr, low_beq, false_and]
 refine ⟨hpLe_app.2 ⟨hpLe_low hoT (by omega), ?_, hpLe_c hHL2 (fun p hp e => by have := ohL_ge p hp; omega)⟩, v, vs, vt, rfl, rfl⟩
 rw [hg_ne (by decide), hold 29 (by decide), h29]
end Go.Proofs.YtmlckdffkbbbhaaGreat
