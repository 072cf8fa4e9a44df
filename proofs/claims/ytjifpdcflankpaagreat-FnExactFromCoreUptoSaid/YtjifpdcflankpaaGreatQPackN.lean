/-
 THE GROUND OF DATA, in one text. Conditions: none.
-/
import Derived.Test.YtjifpdcflankpaaGreatQPackM
import Derived.Test.YtjifpdcflankpaaGreatQPackO
import Derived.Test.YtjifpdcflankpaaGreatQIrC
import Derived.Test.YtjifpdcflankpaaGreatQPackR
import Derived.Test.YtjifpdcflankpaaGreatQPackT
import Derived.Test.YtjifpdcflankpaaGreatQPackC
import Derived.Test.YtjifpdcflankpaaGreatQPackP
import Derived.Test.YtjifpdcflankpaaGreatQPackV
import Derived.Test.YtjifpdcflankpaaGreatQPackG

set_option linter.unusedVariables false
set_option linter.unusedSimpArgs false
set_option maxRecDepth 100000
namespace Go.Proofs.YtjifpdcflankpaaGreat
open Go.RowKit Go.Proofs.YtjifpdcflankpaaGreat.Av Go.Proofs.YtjifpdcflankpaaGreat.Ml
open Go.Proofs.YtjifpdcflankpaaGreat.Av.AVal (av)
open OVal (ov oh on)

def RowP (nm : Nat) (ty : TypeId) (esz : Nat) (es : List AV) (r : AV) (hp' : Hp) : Prop := ∃ v, r = .row nm v es.length ∧ hp' = [(nm, ⟨v, false, ty, esz, es⟩)]
theorem CloneIntR_ok (nm : Nat) (l : List Int) (hl : l.length ≤ 4294967296) : CallsH Tryz.prog 168 [.sl (l.map av)] [] (RowP nm 3 1 (l.map av)) := by
 refine ir_slices_Clone_int_int_O.H rfl ?_
 simp +contextual -dsimp (maxSteps := 2000000) only [↓SD, SU, SB, simprocAttr, ir_slices_Clone_int_int_O, map_len]
 refine ⟨fun h => ?_, fun v => ⟨⟨?_, by omega, by unfold maxLen; omega⟩, fun u => ?_⟩⟩
 ·refine Goes.new 2 nm 3 1 rfl fun u => ?_
  have hl0 : l = [] := by simpa using h
  subst hl0
  refine Goes.post [(nm, ⟨u, false, 3, 1, []⟩)] ?_
  simp +contextual -dsimp (maxSteps := 2000000) only [↓SD, SU, SB, simprocAttr]
  exact ⟨u, rfl, rfl⟩
 ·rintro y hy
  rw [map_nop] at hy
  obtain ⟨x, _, rfl⟩ := List.mem_map.1 hy
  exact AVal.len x
 ·rw [map_nop]
  refine Goes.ren 2 5 nm (v := u) (n := l.length) rfl hg_eq rfl fun v' => ?_
  refine Goes.post [(nm, ⟨v', false, 3, 1, l.map av⟩)] ?_
  simp +contextual -dsimp (maxSteps := 2000000) only [↓SD, SU, SB, simprocAttr, false_and]
  exact ⟨v', by rw [List.length_map], rfl⟩
theorem CloneTyItemR_ok (nm : Nat) (l : List TyItem) (hl : l.length ≤ 4294967296) : CallsH Tryz.prog 132 [.sl (l.map av)] [] (RowP nm 128 3 (l.map av)) := by
 refine ir_slices_Clone_impl_TyItem_impl_TyItem.H rfl ?_
 simp +contextual -dsimp (maxSteps := 2000000) only [↓SD, SU, SB, simprocAttr, ir_slices_Clone_impl_TyItem_impl_TyItem, map_len]
 refine ⟨fun h => ?_, fun v => ⟨⟨?_, by omega, by unfold maxLen; omega⟩, fun u => ?_⟩⟩
 ·refine Goes.new 2 nm 128 3 rfl fun u => ?_
  have hl0 : l = [] := by simpa using h
  subst hl0
  refine Goes.post [(nm, ⟨u, false, 128, 3, []⟩)] ?_
  simp +contextual -dsimp (maxSteps := 2000000) only [↓SD, SU, SB, simprocAttr]
  exact ⟨u, rfl, rfl⟩
 ·rintro y hy
  rw [map_nop] at hy
  obtain ⟨x, _, rfl⟩ := List.mem_map.1 hy
  exact AVal.len x
 ·rw [map_nop]
  refine Goes.ren 2 5 nm (v := u) (n := l.length) rfl hg_eq rfl fun v' => ?_
  refine Goes.post [(nm, ⟨v', false, 128, 3, l.map av⟩)] ?_
  simp +contextual -dsimp (maxSteps := 2000000) only [↓SD, SU, SB, simprocAttr, false_and]
  exact ⟨v', by rw [List.length_map], rfl⟩
theorem ClonePNodeR_ok (nm : Nat) (l : List PNode) (hl : l.length ≤ 4294967296) : CallsH Tryz.prog 167 [.sl (l.map av)] [] (RowP nm 94 4 (l.map av)) := by
 refine ir_slices_Clone_impl_PNode_impl_PNode_O.H rfl ?_
 simp +contextual -dsimp (maxSteps := 2000000) only [↓SD, SU, SB, simprocAttr, ir_slices_Clone_impl_PNode_impl_PNode_O, map_len]
 refine ⟨fun h => ?_, fun v => ⟨⟨?_, by omega, by unfold maxLen; omega⟩, fun u => ?_⟩⟩
 ·refine Goes.new 2 nm 94 4 rfl fun u => ?_
  have hl0 : l = [] := by simpa using h
  subst hl0
  refine Goes.post [(nm, ⟨u, false, 94, 4, []⟩)] ?_
  simp +contextual -dsimp (maxSteps := 2000000) only [↓SD, SU, SB, simprocAttr]
  exact ⟨u, rfl, rfl⟩
 ·rintro y hy
  rw [map_nop] at hy
  obtain ⟨x, _, rfl⟩ := List.mem_map.1 hy
  exact AVal.len x
 ·rw [map_nop]
  refine Goes.ren 2 5 nm (v := u) (n := l.length) rfl hg_eq rfl fun v' => ?_
  refine Goes.post [(nm, ⟨v', false, 94, 4, l.map av⟩)] ?_
  simp +contextual -dsimp (maxSteps := 2000000) only [↓SD, SU, SB, simprocAttr, false_and]
  exact ⟨v', by rw [List.length_map], rfl⟩
theorem CloneConR_ok (nm : Nat) (l : List Con) (hl : l.length ≤ 4294967296) : CallsH Tryz.prog 131 [.sl (l.map av)] [] (RowP nm 80 3 (l.map av)) := by
 refine ir_slices_Clone_impl_Con_impl_Con.H rfl ?_
 simp +contextual -dsimp (maxSteps := 2000000) only [↓SD, SU, SB, simprocAttr, ir_slices_Clone_impl_Con_impl_Con, map_len]
 refine ⟨fun h => ?_, fun v => ⟨⟨?_, by omega, by unfold maxLen; omega⟩, fun u => ?_⟩⟩
 ·refine Goes.new 2 nm 80 3 rfl fun u => ?_
  have hl0 : l = [] := by simpa using h
  subst hl0
  refine Goes.post [(nm, ⟨u, false, 80, 3, []⟩)] ?_
  simp +contextual -dsimp (maxSteps := 2000000) only [↓SD, SU, SB, simprocAttr]
  exact ⟨u, rfl, rfl⟩
 ·rintro y hy
  rw [map_nop] at hy
  obtain ⟨x, _, rfl⟩ := List.mem_map.1 hy
  exact AVal.len x
 ·rw [map_nop]
  refine Goes.ren 2 5 nm (v := u) (n := l.length) rfl hg_eq rfl fun v' => ?_
  refine Goes.post [(nm, ⟨v', false, 80, 3, l.map av⟩)] ?_
  simp +contextual -dsimp (maxSteps := 2000000) only [↓SD, SU, SB, simprocAttr, false_and]
  exact ⟨v', by rw [List.length_map], rfl⟩
theorem callsH_weak {P : Go.Program} {f : FuncId} {args : List AV} {hp : Hp} {Post Post2 : AV → Hp → Prop} (h : CallsH P f args hp Post) (hg : ∀ r hp', Post r hp' → Post2 r hp') : CallsH P f args hp Post2 :=
 callsH_goes h fun r hp' hr => Goes.here (hg r hp' hr)
theorem oh_tyitems (nm : Nat) (vs : Nat → Nat) (l : List TyItem) : oh nm vs l = [(nm, ⟨vs nm, false, 128, 3, l.map av⟩)] := oh_flat (fun _ _ _ => rfl) (fun _ _ _ => rfl) nm vs l
theorem CloneIntO_ok (nm : Nat) (l : List Int) (hl : l.length ≤ 4294967296) : CallsH Tryz.prog 168 [.sl (l.map av)] [] (ToPost nm l) := by
 refine callsH_weak (CloneIntR_ok nm l hl) ?_
 rintro r hp' ⟨v, rfl, rfl⟩
 exact ⟨fun _ => v, by rw [ov_list, List.length_map], by rw [oh_ints]⟩
theorem CloneTyItemO_ok (nm : Nat) (l : List TyItem) (hl : l.length ≤ 4294967296) : CallsH Tryz.prog 132 [.sl (l.map av)] [] (ToPost nm l) := by
 refine callsH_weak (CloneTyItemR_ok nm l hl) ?_
 rintro r hp' ⟨v, rfl, rfl⟩
 exact ⟨fun _ => v, by rw [ov_list, List.length_map], by rw [oh_tyitems]⟩
def mixO {α : Type} [AVal α] [OVal α] (nm : Nat) (vs : Nat → Nat) (l : List α) (k : Nat) : List AV := ovL nm vs 0 (l.take k) ++ (l.drop k).map av
section
variable {α : Type} [AVal α] [OVal α]
theorem mixO_zero (nm : Nat) (vs : Nat → Nat) (l : List α) : mixO nm vs l 0 = l.map av := rfl
theorem mixO_all (nm : Nat) (vs : Nat → Nat) (l : List α) : mixO nm vs l l.length = ovL nm vs 0 l := by simp [mixO]
theorem mixO_len {nm : Nat} {vs : Nat → Nat} {l : List α} {k : Nat} (h : k ≤ l.length) : (mixO nm vs l k).length = l.length := by simp [mixO, ovL_len]; omega
theorem mixO_get {nm : Nat} {vs : Nat → Nat} {l : List α} {k : Nat} (h : k < l.length) (d : AV) : (mixO nm vs l k).getD k d = av l[k] := by
 have hk : (ovL nm vs 0 (l.take k)).length = k := by simp [ovL_len]; omega
 simp only [mixO, List.getD_eq_getElem?_getD]
 rw [List.getElem?_append_right (by omega), hk, Nat.sub_self, List.drop_eq_getElem_cons h]
 rfl
theorem mixO_set {nm : Nat} {vs vs' : Nat → Nat} {l : List α} {k : Nat} (h : k < l.length) : (mixO nm vs' l k).set k (ov (sub nm k) vs l[k]) = mixO nm (glue (sub nm k) vs vs') l (k + 1) := by
 have hk : (ovL nm vs' 0 (l.take k)).length = k := by simp [ovL_len]; omega
 have ht : (l.take k).length = k := by simp; omega
 simp only [mixO]
 rw [List.set_append_right _ _ (by omega), hk, Nat.sub_self, List.drop_eq_getElem_cons h, List.map_cons, List.set_cons_zero, List.take_succ_eq_append_getElem h, ovL_app, ht, Nat.zero_add, (ovL_glue' vs vs' 0 _ (by omega)).1]
 simp only [ovL, ov_glue, List.append_assoc, List.cons_append, List.nil_append]
theorem ovL_take {nm : Nat} {vs vs' : Nat → Nat} {l : List α} {k : Nat} (h : k < l.length) : ovL nm (glue (sub nm k) vs vs') 0 (l.take (k + 1)) = ovL nm vs' 0 (l.take k) ++ [ov (sub nm k) vs l[k]] := by
 have ht : (l.take k).length = k := by simp; omega
 rw [List.take_succ_eq_append_getElem h, ovL_app, ht, Nat.zero_add, (ovL_glue' vs vs' 0 _ (by omega)).1]
 simp only [ovL, ov_glue]
theorem hpLe_pre {a H t : Hp} (h : hpLe H t) (hn : ∀ p ∈ t, ∀ q ∈ a, q.1 ≠ p.1) : hpLe (a ++ H) t := hpLe_iff.2 fun p hp => by
 rw [hg_app_r (fun q hq => hn p hp q hq)]; exact hpLe_iff.1 h p hp
theorem hpLe_c {j : Nat} {b : Box} {H t : Hp} (h : hpLe H t) (hn : ∀ p ∈ t, j ≠ p.1) : hpLe ((j, b) :: H) t := hpLe_pre (a := [(j, b)]) h fun p hp q hq => by rw [List.mem_singleton.1 hq]; exact hn p hp
theorem ohL_more {nm k : Nat} {vs v1 : Nat → Nat} {l : List α} (h : k < l.length) {H : Hp} (h1 : hpLe H (ohL nm vs 0 (l.take k))) (h2 : hpLe H (oh (sub nm k) v1 l[k])) : hpLe H (ohL nm (glue (sub nm k) v1 vs) 0 (l.take (k + 1))) := by
 rw [ohL_take h, hpLe_app]; exact ⟨h1, h2⟩
theorem ohL_ge {nm i : Nat} {vs : Nat → Nat} {l : List α} : ∀ p ∈ ohL nm vs i l, 10000 ≤ p.1 := fun p hp => by obtain ⟨q, _, hq⟩ := ohL_in hp; exact hq.ge
theorem ohL_lt {nm : Nat} {vs : Nat → Nat} {l : List α} {k : Nat} : ∀ p ∈ ohL nm vs 0 (l.take k), ∃ i, i < k ∧ InT (sub nm i) p.1 := fun p hp => by
 obtain ⟨j, hj, hm⟩ := ohL_mem hp
 rw [Nat.zero_add] at hm
 exact ⟨j, by simp at hj; omega, OVal.inh hm⟩
end
theorem copyPatO_ok (nm : Nat) (q : Pat) (hx : Bulk.bulk q ≤ 4294967296) : CallsH Tryz.prog 130 [av q] [] (ToPost nm q) := by
 obtain ⟨l⟩ := q
 have hl := bulk_length l
 have hb : Bulk.bulk l + 1 ≤ 4294967296 := hx
 have C := ClonePNodeR_ok 8 l (by omega)
 refine callsH_goes (Post := fun r hp' => ∃ v vs, r = .agg [.row 8 v l.length] ∧ hp' = (8, ⟨v, false, 94, 4, ovL (sub nm 0) vs 0 l⟩) :: ohL (sub nm 0) vs 0 l) (ir_impl_copyPat_O.H rfl ?_) ?_
 case refine_2 =>
  rintro r hp' ⟨v, vs, rfl, rfl⟩
  refine Goes.renA 0 0 8 (sub nm 0) (v := v) (n := l.length) rfl rfl hg_eq rfl fun v' => ?_
  obtain ⟨H', hH'⟩ : ∃ H', H' = ((sub nm 0, ⟨v', false, 94, 4, ovL (sub nm 0) vs 0 l⟩) :: hrest [8] ((8, ⟨v, false, 94, 4, ovL (sub nm 0) vs 0 l⟩) :: ohL (sub nm 0) vs 0 l) : Hp) := ⟨_, rfl⟩
  have hle := full_le (α := PNode) (nm := sub nm 0) (j := 8) (l := l) (vs := vs) (by omega) hH'
  dsimp only
  rw [← hH']
  refine Goes.le (t := ⟨[(0, .agg [.row (sub nm 0) v' l.length])], oh (sub nm 0) (glue (sub nm 0) (fun k => if k = sub nm 0 then v' else vs k) vs) l⟩) ?_ (by simp +contextual -dsimp only [↓SD, SU, SB, simprocAttr]) hle
  exact ⟨_, by rw [ov_Pat]; rw [← (oh_full (nm := sub nm 0) (vs := vs) (v' := v') l).1]; rfl, rfl⟩
 simp +contextual -dsimp (maxSteps := 2000000) only [↓SD, SU, SB, simprocAttr, ir_impl_copyPat_O, av_Pat, map_len]
 intro v
 refine aCallH_of [] C (by simp +contextual -dsimp only [↓SD, SU, SB, simprocAttr]) ?_
 rintro r hp' ⟨u, rfl, rfl⟩
 simp +contextual -dsimp (maxSteps := 2000000) only [↓SD, SU, SB, simprocAttr, map_len]
 intro v3
 obtain ⟨K, hK⟩ : ∃ K, K = sub nm 0 := ⟨_, rfl⟩
 rw [← hK]
 refine aLoop_of (X := Nat × (Nat → Nat)) (fun x => ⟨[(2, .ptr 2 v 0 0), (3, .ptr 3 v3 0 0), (11, .row 8 u l.length), (12, .int .i64 l.length), (13, .int .i64 x.1)], (2, ⟨v, false, 89, 1, [.agg [.nils]]⟩) :: (3, ⟨v3, false, 89, 1, [.agg [.row 8 u l.length]]⟩) :: (8, ⟨u, false, 94, 4, mixO K x.2 l x.1⟩) :: ohL K x.2 0 (l.take x.1)⟩) (fun x => x.1 ≤ l.length) (fun x => l.length - x.1) (0, fun _ => 0) (Nat.zero_le _) (by simp +contextual -dsimp only [↓SD, SU, SB, simprocAttr]) (by simp +contextual -dsimp only [↓SD, SU, SB, simprocAttr, mixO_zero, List.take_zero, ohL_nil]) ?_
 rintro ⟨k, vs⟩ hk
 dsimp only at hk ⊢
 by_cases hlt : k < l.length
 ·have hg := mixO_get (nm := K) (vs := vs) hlt .top
  have hs := fun v1 => mixO_set (nm := K) (vs := v1) (vs' := vs) hlt
  have hlen := mixO_len (nm := K) (vs := vs) hk
  have hm := bulk_mem (List.getElem_mem hlt)
  have hb1 : Bulk.bulk l[k] = Bulk.bulk l[k].kind + Bulk.bulk l[k].n + Bulk.bulk l[k].s + Bulk.bulk l[k].kids + 1 := rfl
  have hl1 := bulk_length l[k].kids
  have CI := CloneIntO_ok (sub (sub K k) 0) l[k].kids (by omega)
  obtain ⟨U, hU⟩ : ∃ U, U = ohL K vs 0 (l.take k) := ⟨_, rfl⟩
  have hUU : hpLe U U := by rw [hU]; exact ohL_self _ _ _ _
  have hUg : ∀ p ∈ U, 10000 ≤ p.1 := by rw [hU]; exact ohL_ge
  have hUl : ∀ p ∈ U, ∃ i, i < k ∧ InT (sub K i) p.1 := by rw [hU]; exact ohL_lt
  have hmo := fun v1 (H : Hp) => ohL_more (nm := K) (vs := vs) (v1 := v1) hlt (H := H)
  rw [← hU] at hmo ⊢
  clear hU
  generalize mixO K vs l k = M at *
  simp only [ov_PNode, oh_PNode] at hs hmo
  generalize l[k] = a at *
  rw [av_PNode] at hg
  simp +contextual -dsimp (maxSteps := 2000000) only [↓SD, SU, SB, simprocAttr, map_len, hlt, hg, hlen]
  intro w5
  refine ⟨?_, ?_⟩
  all_goals
   refine aCallH_gen [] CI (by simp +contextual -dsimp only [↓SD, SU, SB, simprocAttr]) ?_
   rintro r hp' ⟨v1, rfl, rfl⟩ H hH
   rw [hrest_no] at hH
   have hold := old_get hH
   have ho : hpLe H (oh (sub (sub K k) 0) v1 a.kids) := by rw [hH]; exact hpLe_l (OVal.self _ _ _)
   have hUH : hpLe H U := by
    rw [hH]
    refine hpLe_pre ?_ fun p hp q hq e => ?_
    ·repeat (first | exact hUU | refine hpLe_c ?_ (fun p hp e => by have := hUg p hp; omega))
    ·obtain ⟨i, hi, h1⟩ := hUl p hp
     have h2 := (OVal.inh hq).up
     rw [e] at h2
     have := h1.sib h2
     omega
   simp +contextual -dsimp (maxSteps := 2000000) only [↓SD, SU, SB, simprocAttr, map_len, ov_list, hlt, hg, hlen, hold]
   refine ⟨by omega, Goes.le ⟨(k + 1, glue (sub K k) v1 vs), ⟨hlt, (by first | omega | (simp only; omega))⟩, rfl⟩ (by simp +contextual -dsimp only [↓SD, SU, SB, simprocAttr, Int.natCast_add]) ?_⟩
   have hs1 := hs v1
   simp only [← hs1]
   simp +contextual -dsimp (maxSteps := 2000000) only [↓SD, SU, SB, simprocAttr, hold, hg]
   exact hpLe_c (hmo v1 H hUH ho) (fun p hp e => by have := ohL_ge p hp; omega)
 ·obtain rfl : k = l.length := by omega
  rw [List.take_length, mixO_all]
  obtain ⟨U, hU⟩ : ∃ U, U = ohL K vs 0 l := ⟨_, rfl⟩
  have hUU : hpLe U U := by rw [hU]; exact ohL_self _ _ _ _
  have hUg : ∀ p ∈ U, 10000 ≤ p.1 := by rw [hU]; exact ohL_ge
  have hUc : ∀ (j : Nat) (b : Box) (hp : Hp), j < 10000 → hpLe hp U → hpLe ((j, b) :: hp) U := fun j b hp hj h => hpLe_c h fun p hp e => by have := hUg p hp; omega
  rw [← hU]
  simp +contextual -dsimp (maxSteps := 2000000) only [↓SD, SU, SB, simprocAttr, Nat.lt_irrefl]
  refine Goes.post ((8, ⟨u, false, 94, 4, ovL K vs 0 l⟩) :: U) ?_
  simp +contextual -dsimp (maxSteps := 2000000) only [↓SD, SU, SB, simprocAttr, false_and]
  exact ⟨by repeat (first | exact hUU | refine hUc _ _ _ (by omega) ?_), u, vs, rfl, by rw [hU, hK]⟩
theorem copyPatsO_ok (nm : Nat) (l : List Pat) (hx : Bulk.bulk l ≤ 4294967296) : CallsH Tryz.prog 69 [.sl (l.map av)] [] (ToPost nm l) := by
 have hl := bulk_length l
 refine ir_impl_copyPats_O.H rfl ?_
 simp +contextual -dsimp (maxSteps := 2000000) only [↓SD, SU, SB, simprocAttr, ir_impl_copyPats_O, map_len]
 intro v6
 refine aLoop_of (X := Nat × Nat × (Nat → Nat)) (fun x => ⟨[(3, .row 6 x.2.1 x.1), (7, .sl (l.map av)), (8, .int .i64 l.length), (9, .int .i64 x.1)], (6, ⟨x.2.1, false, 89, 1, ovL nm x.2.2 0 (l.take x.1)⟩) :: ohL nm x.2.2 0 (l.take x.1)⟩) (fun x => x.1 ≤ l.length) (fun x => l.length - x.1) (0, v6, fun _ => 0) (Nat.zero_le _) (by simp +contextual -dsimp only [↓SD, SU, SB, simprocAttr]) (by simp +contextual -dsimp only [↓SD, SU, SB, simprocAttr, List.take_zero, ohL_nil, ovL]) ?_
 rintro ⟨k, u, vs⟩ hk
 dsimp only at hk ⊢
 by_cases hlt : k < l.length
 ·have e := getD_map av l k .top hlt
  have hm := bulk_mem (List.getElem_mem hlt)
  have C := copyPatO_ok (sub nm k) l[k] (by omega)
  have ho := fun v1 => ovL_take (nm := nm) (vs := v1) (vs' := vs) hlt
  have hmo := fun v1 (H : Hp) => ohL_more (nm := nm) (vs := vs) (v1 := v1) hlt (H := H)
  have hel : (ovL nm vs 0 (l.take k)).length = k := by rw [ovL_len]; simp; omega
  obtain ⟨U, hU⟩ : ∃ U, U = ohL nm vs 0 (l.take k) := ⟨_, rfl⟩
  have hUU : hpLe U U := by rw [hU]; exact ohL_self _ _ _ _
  have hUg : ∀ p ∈ U, 10000 ≤ p.1 := by rw [hU]; exact ohL_ge
  have hUl : ∀ p ∈ U, ∃ i, i < k ∧ InT (sub nm i) p.1 := by rw [hU]; exact ohL_lt
  rw [← hU] at hmo ⊢
  clear hU
  obtain ⟨E, hE⟩ : ∃ E, E = ovL nm vs 0 (l.take k) := ⟨_, rfl⟩
  rw [← hE] at hel ho ⊢
  have hEt : List.take k E = E := List.take_of_length_le (by omega)
  simp only [oh_Pat, ov_Pat] at hmo ho
  generalize l[k] = q at *
  rw [av_Pat] at e C
  simp +contextual -dsimp (maxSteps := 2000000) only [↓SD, SU, SB, simprocAttr, map_len, hlt, e]
  intro w5
  refine aCallH_gen [] C (by simp +contextual -dsimp only [↓SD, SU, SB, simprocAttr]) ?_
  rintro r hp' ⟨v1, rfl, rfl⟩ H hH
  rw [hrest_no] at hH
  have hold := fun q hq => old_get hH q hq
  rw [oh_Pat] at hH
  have hoq : hpLe H (oh (sub (sub nm k) 0) v1 q.nodes) := by rw [hH]; exact hpLe_l (OVal.self _ _ _)
  have hUH : hpLe H U := by
   rw [hH]
   refine hpLe_pre ?_ fun p hp q hq e => ?_
   ·repeat (first | exact hUU | refine hpLe_c ?_ (fun p hp e => by have := hUg p hp; omega))
   ·obtain ⟨i, hi, h1⟩ := hUl p hp
    have h2 := (OVal.inh hq).up
    rw [e] at h2
    have := h1.sib h2
    omega
  have hr1 := hpLe_root hoq
  simp +contextual -dsimp (maxSteps := 2000000) only [↓SD, SU, SB, simprocAttr, map_len, ov_Pat, hold, hel, hEt, hr1, false_and, low_beq]
  refine ⟨⟨by omega, by unfold maxLen; omega⟩, fun w => ⟨by omega, Goes.le ⟨(k + 1, w, glue (sub nm k) v1 vs), ⟨hlt, (by first | omega | (simp only; omega))⟩, rfl⟩ (by simp +contextual -dsimp only [↓SD, SU, SB, simprocAttr, Int.natCast_add]) ?_⟩⟩
  have ho1 := ho v1
  simp only [ho1]
  simp +contextual -dsimp (maxSteps := 2000000) only [↓SD, SU, SB, simprocAttr]
  exact hpLe_c (hmo v1 H hUH hoq) (fun p hp e => by have := ohL_ge p hp; omega)
 ·obtain rfl : k = l.length := by omega
  rw [List.take_length]
  obtain ⟨H, hH⟩ : ∃ H, H = ((6, ⟨u, false, 89, 1, ovL nm vs 0 l⟩) :: ohL nm vs 0 l : Hp) := ⟨_, rfl⟩
  rw [← hH]
  simp +contextual -dsimp (maxSteps := 2000000) only [↓SD, SU, SB, simprocAttr, map_len, Nat.lt_irrefl]
  rw [hH]
  refine Goes.ren 2 6 nm (v := u) (n := l.length) rfl hg_eq rfl fun v' => ?_
  obtain ⟨H', hH'⟩ : ∃ H', H' = ((nm, ⟨v', false, 89, 1, ovL nm vs 0 l⟩) :: hrest [6] ((6, ⟨u, false, 89, 1, ovL nm vs 0 l⟩) :: ohL nm vs 0 l) : Hp) := ⟨_, rfl⟩
  have hr : hget H' nm = some ⟨v', false, 89, 1, ovL nm vs 0 l⟩ := by rw [hH']; exact hg_eq
  have hle := full_le (α := Pat) (nm := nm) (j := 6) (l := l) (vs := vs) (by omega) hH'
  dsimp only
  rw [← hH']
  refine Goes.post (oh nm (glue nm (fun k => if k = nm then v' else vs k) vs) l) ?_
  simp +contextual -dsimp (maxSteps := 2000000) only [↓SD, SU, SB, simprocAttr, hr, false_and]
  exact ⟨hle, _, (oh_full l).1.symm, rfl⟩
set_option maxHeartbeats 4000000 in
theorem copyTypesO_ok (nm : Nat) (l : List TypeD) (hx : Bulk.bulk l ≤ 4294967296) : CallsH Tryz.prog 71 [.sl (l.map av)] [] (ToPost nm l) := by
 have hl := bulk_length l
 refine ir_impl_copyTypes_O.H rfl ?_
 simp +contextual -dsimp (maxSteps := 2000000) only [↓SD, SU, SB, simprocAttr, ir_impl_copyTypes_O, map_len]
 intro v8
 refine aLoop_of (X := Nat × Nat × (Nat → Nat)) (fun x => ⟨[(3, .row 8 x.2.1 x.1), (9, .sl (l.map av)), (10, .int .i64 l.length), (11, .int .i64 x.1)], (8, ⟨x.2.1, false, 74, 3, ovL nm x.2.2 0 (l.take x.1)⟩) :: ohL nm x.2.2 0 (l.take x.1)⟩) (fun x => x.1 ≤ l.length) (fun x => l.length - x.1) (0, v8, fun _ => 0) (Nat.zero_le _) (by simp +contextual -dsimp only [↓SD, SU, SB, simprocAttr]) (by simp +contextual -dsimp only [↓SD, SU, SB, simprocAttr, List.take_zero, ohL_nil, ovL]) ?_
 rintro ⟨k, u, vs⟩ hk
 dsimp only at hk ⊢
 by_cases hlt : k < l.length
 ·have e := getD_map av l k .top hlt
  have hm := bulk_mem (List.getElem_mem hlt)
  have ho := fun v1 => ovL_take (nm := nm) (vs := v1) (vs' := vs) hlt
  have hmo := fun v1 (H : Hp) => ohL_more (nm := nm) (vs := vs) (v1 := v1) hlt (H := H)
  have hel : (ovL nm vs 0 (l.take k)).length = k := by rw [ovL_len]; simp; omega
  obtain ⟨U, hU⟩ : ∃ U, U = ohL nm vs 0 (l.take k) := ⟨_, rfl⟩
  have hUU : hpLe U U := by rw [hU]; exact ohL_self _ _ _ _
  have hUg : ∀ p ∈ U, 10000 ≤ p.1 := by rw [hU]; exact ohL_ge
  have hUl : ∀ p ∈ U, ∃ i, i < k ∧ InT (sub nm i) p.1 := by rw [hU]; exact ohL_lt
  rw [← hU] at hmo ⊢
  clear hU
  obtain ⟨E, hE⟩ : ∃ E, E = ovL nm vs 0 (l.take k) := ⟨_, rfl⟩
  rw [← hE] at hel ho ⊢
  have hEt : List.take k E = E := List.take_of_length_le (by omega)
  simp only [oh_TypeD, ov_TypeD] at hmo ho
  generalize l[k] = t at *
  have hbt : Bulk.bulk t = Bulk.bulk t.name + Bulk.bulk t.params + Bulk.bulk t.cons + 1 := rfl
  have hcl := bulk_length t.cons
  rw [av_TypeD] at e
  obtain ⟨C0, hC0⟩ : ∃ C0, C0 = sub (sub nm k) 0 := ⟨_, rfl⟩
  have CC := CloneConR_ok C0 t.cons (by omega)
  rw [← hC0] at ho hmo
  have hKn : ∀ q, q < 10000 → (q == C0) = false := fun q hq => by rw [hC0]; exact low_beq hq
  have hKm : ∀ q, q < 10000 → (C0 = q) = False := fun q hq => eq_false fun e => by have := sub_ge (sub nm k) 0; omega
  simp +contextual -dsimp (maxSteps := 2000000) only [↓SD, SU, SB, simprocAttr, map_len, hlt, e]
  intro w5
  refine aCallH_gen [] CC (by simp +contextual -dsimp only [↓SD, SU, SB, simprocAttr]) ?_
  rintro r hp' ⟨uC, rfl, rfl⟩ H hH
  rw [hrest_no] at hH
  have hC : hget H C0 = some ⟨uC, false, 80, 3, t.cons.map av⟩ := by rw [hH]; exact hg_eq
  have hold : ∀ q, q < 10000 → hget H q = hget ([(5, ⟨w5, false, 74, 3, [.agg [.str t.name, .int .i64 t.params, .sl (t.cons.map av)]]⟩), (8, ⟨u, false, 74, 3, E⟩)] ++ U) q := fun q hq => by
   rw [hH, List.cons_append, hg_ne (fun e => by have := sub_ge (sub nm k) 0; omega)]
   simp only [List.nil_append, hget, List.cons_append]
   split <;> rfl
  have hUH : hpLe H U := by
   rw [hH]
   refine hpLe_pre ?_ fun p hp q hq e => ?_
   ·repeat (first | exact hUU | refine hpLe_c ?_ (fun p hp e => by have := hUg p hp; omega))
   ·obtain ⟨i, hi, h1⟩ := hUl p hp
    rw [List.mem_singleton.1 hq] at e
    simp only at e
    rw [← e, hC0] at h1
    have := h1.sib (InT.up (i := 0) .root)
    omega
  simp +contextual -dsimp (maxSteps := 2000000) only [↓SD, SU, SB, simprocAttr, map_len, hold, hC, hKn, hKm, List.length_map]
  refine aLoop_of (X := Nat × (Nat → Nat)) (fun x => ⟨[(3, .row 8 u k), (5, .ptr 5 w5 0 0), (9, .sl (l.map av)), (10, .int .i64 l.length), (11, .int .i64 k), (20, .row C0 uC t.cons.length), (21, .int .i64 t.cons.length), (22, .int .i64 x.1)], (8, ⟨u, false, 74, 3, E⟩) :: (5, ⟨w5, false, 74, 3, [.agg [.str t.name, .int .i64 t.params, .row C0 uC t.cons.length]]⟩) :: (C0, ⟨uC, false, 80, 3, mixO C0 x.2 t.cons x.1⟩) :: (ohL C0 x.2 0 (t.cons.take x.1) ++ U)⟩) (fun x => x.1 ≤ t.cons.length) (fun x => t.cons.length - x.1) (0, fun _ => 0) (Nat.zero_le _) (by simp +contextual -dsimp only [↓SD, SU, SB, simprocAttr]) (by
   simp +contextual -dsimp (maxSteps := 2000000) only [↓SD, SU, SB, simprocAttr, mixO_zero, List.take_zero, ohL_nil, hold, hC, hKn, hKm, List.nil_append]
   exact hpLe_c hUH (fun p hp e => by have := hUg p hp; omega)) ?_
  clear hC hold hUH hH H
  rintro ⟨j, vc⟩ hj
  dsimp only at hj ⊢
  by_cases hlj : j < t.cons.length
  ·have hg := mixO_get (nm := C0) (vs := vc) hlj .top
   have hs := fun v1 => mixO_set (nm := C0) (vs := v1) (vs' := vc) hlj
   have hlen := mixO_len (nm := C0) (vs := vc) hj
   have hmj := bulk_mem (List.getElem_mem hlj)
   have hb1 : Bulk.bulk t.cons[j] = Bulk.bulk t.cons[j].name + Bulk.bulk t.cons[j].has + Bulk.bulk t.cons[j].arg + 1 := rfl
   have hb2 : Bulk.bulk t.cons[j].arg = Bulk.bulk t.cons[j].arg.items + 1 := rfl
   have hl1 := bulk_length t.cons[j].arg.items
   have CI := CloneTyItemO_ok (sub (sub C0 j) 0) t.cons[j].arg.items (by omega)
   obtain ⟨V, hV⟩ : ∃ V, V = ohL C0 vc 0 (t.cons.take j) := ⟨_, rfl⟩
   have hVV : hpLe V V := by rw [hV]; exact ohL_self _ _ _ _
   have hVg : ∀ p ∈ V, 10000 ≤ p.1 := by rw [hV]; exact ohL_ge
   have hVl : ∀ p ∈ V, ∃ i, i < j ∧ InT (sub C0 i) p.1 := by rw [hV]; exact ohL_lt
   have hmj := fun v1 (H : Hp) => ohL_more (nm := C0) (vs := vc) (v1 := v1) hlj (H := H)
   rw [← hV] at hmj ⊢
   clear hV
   have hVU : hpLe (V ++ U) (V ++ U) := by
    refine hpLe_app.2 ⟨hpLe_l hVV, hpLe_pre hUU fun p hp q hq e => ?_⟩
    obtain ⟨i, hi, h1⟩ := hUl p hp
    obtain ⟨i2, hi2, h2⟩ := hVl q hq
    rw [hC0, e] at h2
    have := h1.sib h2.up.up
    omega
   have hWg : ∀ p ∈ V ++ U, 10000 ≤ p.1 := fun p hp => (List.mem_append.1 hp).elim (hVg p) (hUg p)
   have hWC : ∀ p ∈ V ++ U, C0 ≠ p.1 := fun p hp e => by
    rcases List.mem_append.1 hp with h | h
    ·obtain ⟨i2, hi2, h2⟩ := hVl p h
     exact h2.ne e.symm
    ·obtain ⟨i, hi, h1⟩ := hUl p h
     rw [← e, hC0] at h1
     have := h1.sib (InT.up (i := 0) .root)
     omega
   generalize mixO C0 vc t.cons j = M at *
   simp only [ov_Con, oh_Con] at hs hmj
   generalize t.cons[j] = a at *
   rw [av_Con] at hg
   simp +contextual -dsimp (maxSteps := 2000000) only [↓SD, SU, SB, simprocAttr, map_len, hlj, hg, hlen, hKn, hKm, false_and]
   intro w7
   refine ⟨?_, ?_⟩
   all_goals
    refine aCallH_gen [] CI (by simp +contextual -dsimp only [↓SD, SU, SB, simprocAttr]) ?_
    rintro r hp' ⟨v1, rfl, rfl⟩ H hH
    rw [hrest_no] at hH
    have hold := old_get hH
    have ho2 : hpLe H (oh (sub (sub C0 j) 0) v1 a.arg.items) := by rw [hH]; exact hpLe_l (OVal.self _ _ _)
    have hCn : ¬ InT (sub (sub C0 j) 0) C0 := fun h => h.up.ne rfl
    have hHC : hget H C0 = some ⟨uC, false, 80, 3, M⟩ := by
     rw [hH, hg_app_r (oh_ne hCn)]
     simp only [hget, hKm, eq_comm, if_false, if_true]
     first | rfl | simp [hget, eq_comm, hKm]
    have hWH : hpLe H (V ++ U) := by
     rw [hH]
     refine hpLe_pre ?_ fun p hp q hq e => ?_
     ·repeat (first | exact hVU | refine hpLe_c ?_ (fun p hp e => by have := hWg p hp; omega) | refine hpLe_c ?_ hWC)
     ·have h2 := (OVal.inh hq).up
      rw [e] at h2
      rcases List.mem_append.1 hp with h | h
      ·obtain ⟨i, hi, h1⟩ := hVl p h
       have := h1.sib h2
       omega
      ·obtain ⟨i, hi, h1⟩ := hUl p h
       have h3 := h2.up
       rw [hC0] at h3
       have := h1.sib h3.up
       omega
    simp +contextual -dsimp (maxSteps := 2000000) only [↓SD, SU, SB, simprocAttr, map_len, ov_list, hlj, hg, hlen, hold, hHC, hKn, hKm, false_and]
    refine ⟨by omega, Goes.le ⟨(j + 1, glue (sub C0 j) v1 vc), ⟨hlj, (by first | omega | (simp only; omega))⟩, rfl⟩ (by simp +contextual -dsimp only [↓SD, SU, SB, simprocAttr, Int.natCast_add]) ?_⟩
    have hs1 := hs v1
    simp only [← hs1]
    simp +contextual -dsimp (maxSteps := 2000000) only [↓SD, SU, SB, simprocAttr, hold, hKm]
    have hC1 : 10000 ≤ C0 := by rw [hC0]; exact sub_ge _ _
    refine ⟨(by rw [hg_ne (by omega), hold 8 (by omega)]; rfl), (by rw [hg_ne (by omega), hold 5 (by omega)]; rfl), ?_⟩
    exact hpLe_app.2 ⟨hpLe_c (hmj v1 H (hpLe_app.1 hWH).1 ho2) (fun p hp e => by obtain ⟨i2, _, h2⟩ := ohL_in hp; exact h2.ne e.symm), hpLe_c (hpLe_app.1 hWH).2 (fun p hp => hWC p (List.mem_append_right _ hp))⟩
  ·obtain rfl : j = t.cons.length := by omega
   rw [List.take_length, mixO_all]
   obtain ⟨vT, hvT⟩ : ∃ vT : Nat → Nat, vT = glue C0 (fun q => if q = C0 then uC else vc q) vc := ⟨_, rfl⟩
   have hfull := oh_full (nm := C0) (vs := vc) (v' := uC) t.cons
   rw [← hvT, ov_list] at hfull
   have hCv : vT C0 = uC := by have := hfull.1; cases this; rfl
   have hVV : hpLe (ohL C0 vc 0 t.cons) (ohL C0 vc 0 t.cons) := ohL_self _ _ _ _
   have hVg : ∀ p ∈ ohL C0 vc 0 t.cons, 10000 ≤ p.1 := ohL_ge
   have hVC : ∀ p ∈ ohL C0 vc 0 t.cons, C0 ≠ p.1 := fun p hp e => by obtain ⟨i2, _, h2⟩ := ohL_in hp; exact h2.ne e.symm
   have hUC : ∀ p ∈ U, C0 ≠ p.1 := fun p hp e => by
    obtain ⟨i, hi, h1⟩ := hUl p hp
    rw [← e, hC0] at h1
    have := h1.sib (InT.up (i := 0) .root)
    omega
   have hVU : hpLe (ohL C0 vc 0 t.cons ++ U) U := hpLe_pre hUU fun p hp q hq e => by
    obtain ⟨i, hi, h1⟩ := hUl p hp
    obtain ⟨i2, hi2, h2⟩ := ohL_in hq
    rw [hC0, e] at h2
    have := h1.sib h2.up.up
    omega
   have ho1 := ho vT
   rw [hCv] at ho1
   have hm1 := hmo vT
   rw [hfull.2] at hm1
   generalize ohL C0 vc 0 t.cons = V at *
   obtain ⟨R, hR⟩ : ∃ R, R = (C0, (⟨uC, false, 80, 3, ovL C0 vc 0 t.cons⟩ : Box)) :: (V ++ U) := ⟨_, rfl⟩
   have hRU : hpLe R U := by rw [hR]; exact hpLe_c hVU hUC
   have hRV : hpLe R (V ++ [(C0, ⟨uC, false, OVal.ty Con, AVal.n Con, ovL C0 vc 0 t.cons⟩)]) := by
    rw [hR]
    exact hpLe_app.2 ⟨hpLe_c (hpLe_l hVV) hVC, hg_eq, trivial⟩
   have hRC : hget R C0 = some ⟨uC, false, 80, 3, ovL C0 vc 0 t.cons⟩ := by rw [hR]; exact hg_eq
   rw [← hR]
   simp +contextual -dsimp (maxSteps := 2000000) only [↓SD, SU, SB, simprocAttr, Nat.lt_irrefl, hel, hEt, hKn, hKm, hRC, false_and]
   refine ⟨⟨by omega, by unfold maxLen; omega⟩, fun w => ⟨by omega, Goes.le ⟨(k + 1, w, glue (sub nm k) vT vs), ⟨hlt, (by first | omega | (simp only; omega))⟩, rfl⟩ (by simp +contextual -dsimp only [↓SD, SU, SB, simprocAttr, Int.natCast_add]) ?_⟩⟩
   simp only [ho1]
   simp +contextual -dsimp (maxSteps := 2000000) only [↓SD, SU, SB, simprocAttr]
   have hlow : ∀ (j : Nat) (b : Box) (hp : Hp), j < 10000 → hpLe hp (ohL nm (glue (sub nm k) vT vs) 0 (l.take (k + 1))) → hpLe ((j, b) :: hp) (ohL nm (glue (sub nm k) vT vs) 0 (l.take (k + 1))) := fun j b hp hj h => hpLe_c h fun p hp e => by have := ohL_ge p hp; omega
   refine hlow _ _ _ (by omega) (hlow _ _ _ (by omega) (hlow _ _ _ (by omega) (hm1 R hRU hRV)))
 ·obtain rfl : k = l.length := by omega
  rw [List.take_length]
  obtain ⟨H, hH⟩ : ∃ H, H = ((8, ⟨u, false, 74, 3, ovL nm vs 0 l⟩) :: ohL nm vs 0 l : Hp) := ⟨_, rfl⟩
  rw [← hH]
  simp +contextual -dsimp (maxSteps := 2000000) only [↓SD, SU, SB, simprocAttr, map_len, Nat.lt_irrefl]
  rw [hH]
  refine Goes.ren 2 8 nm (v := u) (n := l.length) rfl hg_eq rfl fun v' => ?_
  obtain ⟨H', hH'⟩ : ∃ H', H' = ((nm, ⟨v', false, 74, 3, ovL nm vs 0 l⟩) :: hrest [8] ((8, ⟨u, false, 74, 3, ovL nm vs 0 l⟩) :: ohL nm vs 0 l) : Hp) := ⟨_, rfl⟩
  have hr : hget H' nm = some ⟨v', false, 74, 3, ovL nm vs 0 l⟩ := by rw [hH']; exact hg_eq
  have hle := full_le (α := TypeD) (nm := nm) (j := 8) (l := l) (vs := vs) (by omega) hH'
  dsimp only
  rw [← hH']
  refine Goes.post (oh nm (glue nm (fun k => if k = nm then v' else vs k) vs) l) ?_
  simp +contextual -dsimp (maxSteps := 2000000) only [↓SD, SU, SB, simprocAttr, hr, false_and]
  exact ⟨hle, _, (oh_full l).1.symm, rfl⟩
end Go.Proofs.YtjifpdcflankpaaGreat

namespace Go.Proofs.YtjifpdcflankpaaGreat
open Go.RowKit Go.Proofs.YtjifpdcflankpaaGreat.Av Go.Proofs.YtjifpdcflankpaaGreat.Ml
open Go.Proofs.YtjifpdcflankpaaGreat.Av.AVal (av)
open OVal (ov oh on)

def growO (G : List AV) (x : AV) (hp : Hp) : Prop := (G = [] ∧ x = .nils ∧ hp = []) ∨ ∃ v, x = .row 29 v G.length ∧ hp = [(29, ⟨v, false, 44, 6, G⟩)]
def FlatPostT (nm : Nat) (G : List AV) (t : Tr) (r : AV) (hp' : Hp) : Prop := ∃ v vs, r = .tup [.row 29 v (G.length + t.size), .int .i64 G.length] ∧ hp' = (29, ⟨v, false, 44, 6, G ++ ovL nm vs G.length (layT G.length t)⟩) :: ohL nm vs G.length (layT G.length t)
structure FtS where
 j : Nat
 v : Nat
 u : Nat
 vs : Nat → Nat
set_option maxHeartbeats 4000000 in
theorem flatO_ok (nm : Nat) : ∀ (t : Tr), t.ok → ∀ (G : List AV) (x : AV) (hp : Hp), growO G x hp → G.length + t.size ≤ 4294967296 → CallsH Tryz.prog 70 [x, av t] hp (FlatPostT nm G t) := by
 refine Tr.ind fun n ks ih hok G x hp hx hb => ?_
 rw [Tr.ok] at hok
 obtain ⟨⟨ht3, ht13, hbn⟩, hoks⟩ := hok
 have ec : (Tr.mk n ks).size = Tr.sizes ks + 1 := by rw [Tr.size]
 rw [ec] at hb
 have hkl := sizes_len ks
 have hbp : Bulk.bulk n.pats ≤ Bulk.bulk n := by simp only [Bulk.bulk]; omega
 have hpl := bulk_length n.pats
 obtain ⟨P, hP⟩ : ∃ P, P = sub (sub nm G.length) 1 := ⟨_, rfl⟩
 have CP := copyPatsO_ok P n.pats (by omega)
 have hPn : ∀ q, q < 10000 → (q == P) = false := fun q hq => by rw [hP]; exact low_beq hq
 have hPg : 10000 ≤ P := by rw [hP]; exact sub_ge _ _
 have hPm : ∀ q, q < 10000 → (P = q) = False := fun q hq => eq_false fun e => by omega
 refine ir_impl_flat_O.H rfl ?_
 obtain ⟨N0, hN0⟩ : ∃ N0 : Nat → AV, N0 = fun v => .agg [.int .i64 n.kind, .int .i64 n.pos, .int .i64 n.n, .str n.s, .nils, .row P v n.pats.length] := ⟨_, rfl⟩
 rcases hx with ⟨hG0, rfl, rfl⟩ | ⟨v, rfl, rfl⟩
 case' inl =>
  have hG1 : G.length = 0 := by rw [hG0]; rfl
  simp +contextual -dsimp (maxSteps := 2000000) only [↓SD, SU, SB, simprocAttr, ir_impl_flat_O, av_Tr, map_len]
  refine aCallH_gen [] CP (by simp +contextual -dsimp only [↓SD, SU, SB, simprocAttr]) ?_
  rintro r hp' ⟨vp, rfl, rfl⟩ H hH
  rw [hrest_no, List.append_nil] at hH
  have hoP : hpLe H (oh P vp n.pats) := by rw [hH]; exact OVal.self _ _ _
  have hr1 := hpLe_root hoP
  simp +contextual -dsimp (maxSteps := 2000000) only [↓SD, SU, SB, simprocAttr, ov_list, map_len, hr1, hPn, hPm, false_and]
  refine ⟨by unfold maxLen; omega, fun v1 v2 => ?_⟩
  refine aLoop_of (X := FtS) (fun q => ⟨[(0, .row 29 q.v (G.length + 1 + Tr.sizes (ks.take q.j))), (6, .int .i64 G.length), (7, .row 30 q.u q.j), (43, .sl (ks.map av)), (44, .int .i64 ks.length), (45, .int .i64 q.j)], (29, ⟨q.v, false, 44, 6, G ++ [N0 (vp P)] ++ ovL nm q.vs (G.length + 1) (layTs (G.length + 1) (ks.take q.j))⟩) :: (30, ⟨q.u, false, 3, 1, (kidT (G.length + 1) (ks.take q.j)).map av⟩) :: (oh P vp n.pats ++ ohL nm q.vs (G.length + 1) (layTs (G.length + 1) (ks.take q.j)))⟩) (fun q => q.j ≤ ks.length) (fun q => ks.length - q.j) ⟨0, v1, v2, fun _ => 0⟩ (Nat.zero_le _) (by simp +contextual -dsimp only [↓SD, SU, SB, simprocAttr, List.take_zero, Tr.sizes, hG1]) (by
   simp +contextual -dsimp (maxSteps := 2000000) only [↓SD, SU, SB, simprocAttr, List.take_zero, layTs, kidT, List.map_nil, List.append_nil, hG0, hN0, ovL, ohL]
   exact hpLe_c (hpLe_c hoP (fun p hp e => by have := (OVal.inh hp).le; omega)) (fun p hp e => by have := (OVal.inh hp).le; omega)) ?_
 case' inr =>
  have t0 : List.take G.length G = G := List.take_length
  simp +contextual -dsimp (maxSteps := 2000000) only [↓SD, SU, SB, simprocAttr, ir_impl_flat_O, av_Tr, map_len, t0]
  refine aCallH_gen [] CP (by simp +contextual -dsimp only [↓SD, SU, SB, simprocAttr]) ?_
  rintro r hp' ⟨vp, rfl, rfl⟩ H hH
  rw [hrest_no] at hH
  have hoP : hpLe H (oh P vp n.pats) := by rw [hH]; exact hpLe_l (OVal.self _ _ _)
  have hr1 := hpLe_root hoP
  have hold : ∀ q, q < 10000 → hget H q = hget [(29, ⟨v, false, 44, 6, G⟩)] q := fun q hq => by
   rw [hH, hg_app_r (oh_ne fun h => by have := h.le; omega)]
  simp +contextual -dsimp (maxSteps := 2000000) only [↓SD, SU, SB, simprocAttr, ov_list, map_len, hr1, hold, hPn, hPm, t0, false_and]
  refine ⟨⟨by omega, by unfold maxLen; omega⟩, fun v1 v2 => ?_⟩
  refine aLoop_of (X := FtS) (fun q => ⟨[(0, .row 29 q.v (G.length + 1 + Tr.sizes (ks.take q.j))), (6, .int .i64 G.length), (7, .row 30 q.u q.j), (43, .sl (ks.map av)), (44, .int .i64 ks.length), (45, .int .i64 q.j)], (29, ⟨q.v, false, 44, 6, G ++ [N0 (vp P)] ++ ovL nm q.vs (G.length + 1) (layTs (G.length + 1) (ks.take q.j))⟩) :: (30, ⟨q.u, false, 3, 1, (kidT (G.length + 1) (ks.take q.j)).map av⟩) :: (oh P vp n.pats ++ ohL nm q.vs (G.length + 1) (layTs (G.length + 1) (ks.take q.j)))⟩) (fun q => q.j ≤ ks.length) (fun q => ks.length - q.j) ⟨0, v1, v2, fun _ => 0⟩ (Nat.zero_le _) (by simp +contextual -dsimp only [↓SD, SU, SB, simprocAttr, List.take_zero, Tr.sizes]) (by
   simp +contextual -dsimp (maxSteps := 2000000) only [↓SD, SU, SB, simprocAttr, List.take_zero, layTs, kidT, List.map_nil, List.append_nil, hN0, ovL, ohL]
   exact hpLe_c (hpLe_c hoP (fun p hp e => by have := (OVal.inh hp).le; omega)) (fun p hp e => by have := (OVal.inh hp).le; omega)) ?_
  clear hold
 all_goals
  clear hr1 hoP hH H
  obtain ⟨W, hW⟩ : ∃ W, W = oh P vp n.pats := ⟨_, rfl⟩
  have hWW : hpLe W W := by rw [hW]; exact OVal.self _ _ _
  have hWi : ∀ p ∈ W, InT P p.1 := by rw [hW]; exact fun p hp => OVal.inh hp
  have hWg : ∀ p ∈ W, 10000 ≤ p.1 := fun p hp => by have := (hWi p hp).le; omega
  have hWs : ∀ p ∈ W, InT (sub nm G.length) p.1 := fun p hp => by have h := hWi p hp; rw [hP] at h; exact h.up
  have hN0f := congrFun hN0 (vp P)
  rw [← hW]
  rintro ⟨j, a, b, vs⟩ hj
  dsimp only at hj ⊢
  by_cases hlt : j < ks.length
  ·have e1 := getD_map av ks j .top hlt
   have b2 := sizes_take ks j hlt
   have ht : ks.take (j + 1) = ks.take j ++ [ks[j]] := List.take_succ_eq_append_getElem hlt
   have hpx : G.length + 1 + Tr.sizes (ks.take (j + 1)) = G.length + 1 + Tr.sizes (ks.take j) + (ks[j]).size := by rw [ht, sizes_app]; omega
   have hfl := layTs_len' (G.length + 1) (ks.take j)
   have hkp := kidT_len (G.length + 1) (ks.take j)
   rw [List.length_take, Nat.min_eq_left hj] at hkp
   have hL : (G ++ [N0 (vp P)] ++ ovL nm vs (G.length + 1) (layTs (G.length + 1) (ks.take j))).length = G.length + 1 + Tr.sizes (ks.take j) := by simp [hfl, ovL_len]; omega
   have C := ih ks[j] (List.getElem_mem hlt) (oks_mem hoks (List.getElem_mem hlt)) (G ++ [N0 (vp P)] ++ ovL nm vs (G.length + 1) (layTs (G.length + 1) (ks.take j))) (.row 29 a (G.length + 1 + Tr.sizes (ks.take j))) [(29, ⟨a, false, 44, 6, G ++ [N0 (vp P)] ++ ovL nm vs (G.length + 1) (layTs (G.length + 1) (ks.take j))⟩)] (.inr ⟨a, by rw [hL], rfl⟩) (by rw [hL]; omega)
   unfold FlatPostT at C
   rw [hL] at C
   have hsn : layTs (G.length + 1) (ks.take (j + 1)) = layTs (G.length + 1) (ks.take j) ++ layT (G.length + 1 + Tr.sizes (ks.take j)) ks[j] := by rw [ht, layTs_snoc]
   have hks : (kidT (G.length + 1) (ks.take (j + 1))).map (av : Int → AV) = (kidT (G.length + 1) (ks.take j)).map av ++ [.int .i64 ((G.length : Int) + 1 + (Tr.sizes (ks.take j) : Int))] := by rw [ht, kidT_snoc, List.map_append]; rfl
   have hkm : ((kidT (G.length + 1) (ks.take j)).map (av : Int → AV)).length = j := by rw [List.length_map, hkp]
   have hkt : List.take j ((kidT (G.length + 1) (ks.take j)).map (av : Int → AV)) = (kidT (G.length + 1) (ks.take j)).map av := List.take_of_length_le (by rw [hkm]; exact Nat.le_refl _)
   generalize (kidT (G.length + 1) (ks.take j)).map (av : Int → AV) = KP at *
   generalize hX : layTs (G.length + 1) (ks.take j) = X at *
   generalize hY : layT (G.length + 1 + Tr.sizes (ks.take j)) ks[j] = Y at *
   have hgl := fun vs1 => glueR_app (nm := nm) vs1 vs (G.length + 1) X Y
   rw [hfl] at hgl
   generalize hN : Tr.sizes (ks.take j) = N at *
   obtain ⟨Q, hQ⟩ : ∃ Q, Q = G ++ [N0 (vp P)] ++ ovL nm vs (G.length + 1) X := ⟨_, rfl⟩
   rw [← hQ] at C ⊢
   simp +contextual -dsimp (maxSteps := 2000000) only [↓SD, SU, SB, simprocAttr, hlt, map_len, e1, tr_cells, tr_pur, tr_pur1, tr_purA, tr_one, tr_ok]
   refine aCallH_gen [29] C (by simp +contextual -dsimp only [↓SD, SU, SB, simprocAttr, tr_purA, false_and]) ?_
   rintro r hp' ⟨w, vs1, rfl, rfl⟩ H hH
   have hYn : ∀ p ∈ ohL nm vs1 (G.length + 1 + N) Y, ∃ i, G.length + 1 + N ≤ i ∧ InT (sub nm i) p.1 := fun p hp => ohL_in hp
   have h30 : hget H 30 = some ⟨b, false, 3, 1, KP⟩ := by
    rw [hH, List.cons_append, hg_ne (by decide), hg_app, ohL_far (by decide)]
    show hget (hrest [29] _) 30 = _
    rw [hget_rest_out (by decide), hg_ne (by decide), hg_eq]
   have h29 : hget H 29 = some ⟨w, false, 44, 6, Q ++ ovL nm vs1 (G.length + 1 + N) Y⟩ := by rw [hH]; exact hg_eq
   have hlast : ∀ bx, hpLe ((30, bx) :: H) (W ++ (ohL nm vs (G.length + 1) X ++ ohL nm vs1 (G.length + 1 + N) Y)) := fun bx => by
    refine hpLe_app.2 ⟨hpLe_iff.2 fun p hp => ?_, ?_⟩
    ·have hge := hWg p hp
     rw [hg_ne (by omega), hH, List.cons_append, hg_ne (by omega), hg_app_r (fun q hq e => by
      obtain ⟨i, hi, h1⟩ := hYn q hq
      rw [e] at h1
      have := h1.sib (hWs p hp)
      omega), hget_rest_out (by simp; omega), hg_ne (by omega), hg_ne (by omega)]
     exact hg_app_l (hpLe_iff.1 hWW p hp)
    ·have h1 := parts_app (nm := nm) (vs := vs1) (vs' := vs) (a := X) (b := Y) (i := G.length + 1) (m := G.length + 1 + N) (s := hrest [29] ((29, ⟨a, false, 44, 6, Q⟩) :: (30, ⟨b, false, 3, 1, KP⟩) :: (W ++ ohL nm vs (G.length + 1) X))) (by omega) (fun p hp => by
      obtain ⟨i, hi, hq⟩ := ohL_in hp
      have hge := hq.ge
      rw [hget_rest_out (by simp; omega), hg_ne (by omega), hg_ne (by omega), hg_app_r (fun q hq' e => by
       have h1 := hWs q hq'
       rw [e] at h1
       have := h1.sib hq
       omega)]
      exact hpLe_iff.1 (ohL_self nm vs _ X) p hp)
     refine hpLe_iff.2 fun p hp => ?_
     have hge : 10000 ≤ p.1 := by
      rcases List.mem_append.1 hp with h | h
      ·exact ohL_ge p h
      ·exact ohL_ge p h
     rw [hg_ne (by omega), hH, List.cons_append, hg_ne (by omega)]
     exact hpLe_iff.1 h1 p hp
   simp +contextual -dsimp (maxSteps := 2000000) only [↓SD, SU, SB, simprocAttr, hkm, hkt, Int.natCast_add, h30, h29]
   refine ⟨⟨by omega, by unfold maxLen; omega⟩, fun v => ⟨by omega, Goes.le ⟨⟨j + 1, w, v, glueR nm (G.length + 1 + N) vs1 vs⟩, ⟨hlt, (by first | omega | (simp only; omega))⟩, rfl⟩ (by simp +contextual -dsimp only [↓SD, SU, SB, simprocAttr, Int.natCast_add, hpx]) ?_⟩⟩
   rw [hsn, (hgl vs1).1, (hgl vs1).2, ← List.append_assoc, ← hQ, hks]
   simp +contextual -dsimp (maxSteps := 2000000) only [↓SD, SU, SB, simprocAttr, h29]
   exact hlast _
  ·obtain rfl : j = ks.length := by omega
   rw [List.take_length]
   have hkp := kidT_len (G.length + 1) ks
   have hfl := layTs_len' (G.length + 1) ks
   have hfx : layT G.length (.mk n ks) = { n with kids := kidT (G.length + 1) ks } :: layTs (G.length + 1) ks := by rw [layT]
   have hL : (G ++ [N0 (vp P)] ++ ovL nm vs (G.length + 1) (layTs (G.length + 1) ks)).length = G.length + 1 + Tr.sizes ks := by simp [hfl, ovL_len]; omega
   have hG : (G ++ [N0 (vp P)] ++ ovL nm vs (G.length + 1) (layTs (G.length + 1) ks)).getD G.length .top = N0 (vp P) := by simp [List.getD_eq_getElem?_getD]
   have hS : ∀ x, (G ++ [N0 (vp P)] ++ ovL nm vs (G.length + 1) (layTs (G.length + 1) ks)).set G.length x = G ++ x :: ovL nm vs (G.length + 1) (layTs (G.length + 1) ks) := fun x => by
    simp [List.set_append]
   have hlt2 : (G.length : Int) < (G.length : Int) + 1 + (Tr.sizes ks : Int) := by omega
   have hlt3 : G.length < G.length + 1 + Tr.sizes ks := by omega
   generalize hX : layTs (G.length + 1) ks = X at *
   obtain ⟨Q, hQ⟩ : ∃ Q, Q = G ++ [N0 (vp P)] ++ ovL nm vs (G.length + 1) X := ⟨_, rfl⟩
   rw [← hQ] at hL hG hS ⊢
   rw [hN0f] at hG
   obtain ⟨KP, hKP⟩ : ∃ KP, KP = kidT (G.length + 1) ks := ⟨_, rfl⟩
   rw [← hKP] at hkp hfx ⊢
   simp +contextual -dsimp (maxSteps := 2000000) only [↓SD, SU, SB, simprocAttr, Nat.lt_irrefl]
   obtain ⟨K, hK⟩ : ∃ K, K = sub (sub nm G.length) 0 := ⟨_, rfl⟩
   have hKg : 10000 ≤ K := by rw [hK]; exact sub_ge _ _
   have hKi : InT (sub nm G.length) K := by rw [hK]; exact InT.up (i := 0) .root
   have hKW : ∀ p ∈ W, K ≠ p.1 := fun p hp e => by
    have h1 := hWi p hp
    rw [← e, hP, hK] at h1
    have := h1.sib .root
    omega
   have hKX : ∀ p ∈ ohL nm vs (G.length + 1) X, K ≠ p.1 := fun p hp e => by
    obtain ⟨i, hi, h1⟩ := ohL_in hp
    rw [← e] at h1
    have := h1.sib hKi
    omega
   refine ghost_of (Goes.ren 7 30 K (v := b) (n := ks.length) rfl (by rw [hg_ne (by decide)]; exact hg_eq) rfl fun v' => Goes.here ?_)
   obtain ⟨H, hH⟩ : ∃ H, H = ((K, (⟨v', false, 3, 1, KP.map av⟩ : Box)) :: hrest [30] ((29, ⟨a, false, 44, 6, Q⟩) :: (30, ⟨b, false, 3, 1, KP.map av⟩) :: (W ++ ohL nm vs (G.length + 1) X)) : Hp) := ⟨_, rfl⟩
   dsimp only
   rw [← hH]
   have h29 : hget H 29 = some ⟨a, false, 44, 6, Q⟩ := by
    rw [hH, hg_ne (by omega), hget_rest_out (by decide), hg_eq]
   obtain ⟨va, hva⟩ : ∃ va : Nat → Nat, va = glueR nm (G.length + 1) vs (fun q => if q = K then v' else vp q) := ⟨_, rfl⟩
   have hvo : ∀ q, InT (sub nm G.length) q → va q = if q = K then v' else vp q := fun q hq => by
    rw [hva]
    exact if_neg (fun ⟨i, hi, hin⟩ => by have := hin.sib hq; omega)
   have hvK : va K = v' := by rw [hvo K hKi, if_pos rfl]
   have hvP := OVal.vdep P va vp n.pats (fun q hq => by
    rw [hvo q (by rw [hP] at hq; exact hq.up), if_neg (fun e => by
     rw [e, hP, hK] at hq
     have := hq.sib .root
     omega)])
   have hvPP : va P = vp P := by have := hvP.1; rw [ov_list, ov_list] at this; exact (AV.row.inj this).2.1
   have hg3 := glueR_hi (nm := nm) (m := G.length + 1) vs (fun q => if q = K then v' else vp q) (G.length + 1) X (Nat.le_refl _)
   rw [← hva] at hg3
   have hov : ovL nm va G.length (layT G.length (.mk n ks)) = .agg [.int .i64 n.kind, .int .i64 n.pos, .int .i64 n.n, .str n.s, .row K v' ks.length, .row P (vp P) n.pats.length] :: ovL nm vs (G.length + 1) X := by
    rw [hfx, ovL, hg3.1, ov_Node, ← hK, ← hP, hvK, hvPP, ← hkp]
   have hoh : ohL nm va G.length (layT G.length (.mk n ks)) = (K, ⟨v', false, 3, 1, KP.map av⟩) :: (W ++ ohL nm vs (G.length + 1) X) := by
    rw [hfx, ohL, hg3.2, oh_Node, ← hK, ← hP, oh_ints, hvK, hvP.2, ← hW]; simp only [List.append_assoc, List.cons_append, List.nil_append]
   simp +contextual -dsimp (maxSteps := 2000000) only [↓SD, SU, SB, simprocAttr, h29, hL, hG, hS, hlt2, hlt3, Nat.le_refl]
   refine Goes.post ((29, ⟨a, false, 44, 6, G ++ ovL nm va G.length (layT G.length (.mk n ks))⟩) :: ohL nm va G.length (layT G.length (.mk n ks))) ?_
   rw [hov, hoh]
   have hWX : hpLe (W ++ ohL nm vs (G.length + 1) X) (W ++ ohL nm vs (G.length + 1) X) := hpLe_app.2 ⟨hpLe_l hWW, hpLe_pre (ohL_self _ _ _ _) fun p hp q hq e => by
    have h1 := hWs q hq
    obtain ⟨i, hi, h2⟩ := ohL_in hp
    rw [e] at h1
    have := h1.sib h2
    omega⟩
   have hlast : ∀ bx, hpLe ((29, bx) :: H) ((K, ⟨v', false, 3, 1, KP.map av⟩) :: (W ++ ohL nm vs (G.length + 1) X)) := fun bx => by
    refine hpLe_iff.2 fun p hp => ?_
    rcases List.mem_cons.1 hp with e | e
    ·subst e
     rw [hg_ne (by simp only; omega), hH]; exact hg_eq
    ·have hge : 10000 ≤ p.1 := (List.mem_append.1 e).elim (hWg p) (ohL_ge p)
     have hne : K ≠ p.1 := (List.mem_append.1 e).elim (hKW p) (hKX p)
     rw [hg_ne (by omega), hH, hg_ne hne, hget_rest_out (by simp; omega), hg_ne (by omega), hg_ne (by omega)]
     exact hpLe_iff.1 hWX p e
   simp +contextual -dsimp (maxSteps := 2000000) only [↓SD, SU, SB, simprocAttr, false_and]
   have hl2 := hlast ⟨a, false, 44, 6, G ++ .agg [.int .i64 n.kind, .int .i64 n.pos, .int .i64 n.n, .str n.s, .row K v' ks.length, .row P (vp P) n.pats.length] :: ovL nm vs (G.length + 1) X⟩
   rw [hpLe_cons] at hl2
   exact ⟨hl2, a, va, by rw [ec]; exact congrArg (fun z => AV.tup [.row 29 a z, .int .i64 G.length]) (by omega), by rw [hov, hoh]⟩
theorem programOfO_ok (nm : Nat) (ty : List TypeD) (t : Tr) (hok : t.ok) (hb : t.size ≤ 4294967296) (hx : Bulk.bulk ty ≤ 4294967296) : CallsH Tryz.prog 32 [.sl (ty.map av), av t] [] (ToPost nm (⟨ty, layT 0 t⟩ : Program)) := by
 have CF := flatO_ok (sub nm 1) t hok [] .nils [] (.inl ⟨rfl, rfl, rfl⟩) (by simpa using hb)
 unfold FlatPostT at CF
 have hl := layT_len t 0
 simp only [List.length_nil, List.nil_append, Nat.zero_add] at CF
 rw [← hl] at CF
 have CT := copyTypesO_ok (sub nm 0) ty hx
 generalize layT 0 t = L at *
 refine callsH_goes (Post := fun r hp' => ∃ v vs vt, r = .agg [.row (sub nm 0) (vt (sub nm 0)) ty.length, .row 29 v L.length] ∧ hp' = oh (sub nm 0) vt ty ++ ((29, ⟨v, false, 44, 6, ovL (sub nm 1) vs 0 L⟩) :: ohL (sub nm 1) vs 0 L)) (ir_impl_programOf_O.H rfl ?_) ?_
 case refine_2 =>
  rintro r hp' ⟨v, vs, vt, rfl, rfl⟩
  have hb29 : hget (oh (sub nm 0) vt ty ++ ((29, ⟨v, false, 44, 6, ovL (sub nm 1) vs 0 L⟩) :: ohL (sub nm 1) vs 0 L)) 29 = some ⟨v, false, 44, 6, ovL (sub nm 1) vs 0 L⟩ := by
   rw [hg_app_r (oh_ne fun h => by have := h.ge; omega)]; exact hg_eq
  refine Goes.renA 0 1 29 (sub nm 1) (v := v) (n := L.length) rfl rfl hb29 rfl fun v' => ?_
  obtain ⟨va, hva⟩ : ∃ va : Nat → Nat, va = glue (sub nm 0) vt (glue (sub nm 1) (fun k => if k = sub nm 1 then v' else vs k) vs) := ⟨_, rfl⟩
  have hne : ∀ k, InT (sub nm 1) k → ¬ InT (sub nm 0) k := fun k h => sib_ne (by omega) h
  have e1 : oh (sub nm 0) va ty = oh (sub nm 0) vt ty := by rw [hva, oh_glue]
  have e2 : oh (sub nm 1) va L = ohL (sub nm 1) vs 0 L ++ [(sub nm 1, ⟨v', false, OVal.ty Node, AVal.n Node, ovL (sub nm 1) vs 0 L⟩)] := by rw [hva, oh_glue' _ _ _ hne, (oh_full L).2]
  have e3 : va (sub nm 0) = vt (sub nm 0) := by rw [hva, glue_in .root]
  have e4 : va (sub nm 1) = v' := by rw [hva, glue_out (hne _ .root), glue_in .root, if_pos rfl]
  refine Goes.le (t := ⟨[(0, .agg [.row (sub nm 0) (vt (sub nm 0)) ty.length, .row (sub nm 1) v' L.length])], oh (sub nm 0) vt ty ++ (ohL (sub nm 1) vs 0 L ++ [(sub nm 1, ⟨v', false, OVal.ty Node, AVal.n Node, ovL (sub nm 1) vs 0 L⟩)])⟩) ⟨va, by rw [ov_Program, e3, e4]; rfl, by rw [oh_Program, e1, e2]⟩ (by simp +contextual -dsimp only [↓SD, SU, SB, simprocAttr]) ?_
  refine hpLe_app.2 ⟨hpLe_iff.2 fun p hp => ?_, hpLe_app.2 ⟨hpLe_iff.2 fun p hp => ?_, hg_eq, trivial⟩⟩
  ·have hin := OVal.inh hp
   have hge := hin.ge
   rw [hg_ne (fun e : sub nm 1 = p.1 => hne _ .root (by rw [e]; exact hin)), hget_rest_out (by simp; omega)]
   exact hg_app_l (hpLe_iff.1 (OVal.self _ _ _) p hp)
  ·obtain ⟨q, _, hq⟩ := ohL_in hp
   have hge := hq.ge
   rw [hg_ne (fun e => hq.ne e.symm), hget_rest_out (by simp; omega), hg_app_r (oh_ne (hne _ hq.up)), hg_ne (by omega)]
   exact hpLe_iff.1 (ohL_self _ _ _ _) p hp
 simp +contextual -dsimp (maxSteps := 2000000) only [↓SD, SU, SB, simprocAttr, ir_impl_programOf_O, tr_purA]
 intro v4
 refine aCallH_gen [] CF (by simp +contextual -dsimp only [↓SD, SU, SB, simprocAttr]) ?_
 rintro r hp' ⟨v, vs, rfl, rfl⟩ H hH
 rw [hrest_no] at hH
 have h29 : hget H 29 = some ⟨v, false, 44, 6, ovL (sub nm 1) vs 0 L⟩ := by rw [hH]; exact hg_eq
 have h4 : hget H 4 = some ⟨v4, false, 30, 2, [.agg [.nils, .nils]]⟩ := by
  rw [hH, List.cons_append, hg_ne (by decide), hg_app_r (fun p hp => by have := ohL_ge p hp; omega)]; exact hg_eq
 have hHL : hpLe H (ohL (sub nm 1) vs 0 L) := by
  rw [hH]
  exact hpLe_c (hpLe_l (ohL_self _ _ _ _)) (fun p hp e => by have := ohL_ge p hp; omega)
 simp +contextual -dsimp (maxSteps := 2000000) only [↓SD, SU, SB, simprocAttr]
 refine aCallH_gen [] CT (by simp +contextual -dsimp only [↓SD, SU, SB, simprocAttr]) ?_
 rintro r hp' ⟨vt, rfl, rfl⟩ H2 hH2
 rw [hrest_no] at hH2
 have hold := old_get hH2
 have hoT : hpLe H2 (oh (sub nm 0) vt ty) := by rw [hH2]; exact hpLe_l (OVal.self _ _ _)
 have hr := hpLe_root hoT
 have hHL2 : hpLe H2 (ohL (sub nm 1) vs 0 L) := by
  rw [hH2]
  exact hpLe_pre hHL fun p hp q hq e => by
   obtain ⟨i, _, h1⟩ := ohL_in hp
   exact sib_ne (i := 1) (j := 0) (by omega) h1.up (e ▸ OVal.inh hq)
 simp +contextual -dsimp (maxSteps := 2000000) only [↓SD, SU, SB, simprocAttr, ov_list, hold, h29, h4, hr, low_beq, false_and]
 refine Goes.post (oh (sub nm 0) vt ty ++ ((29, ⟨v, false, 44, 6, ovL (sub nm 1) vs 0 L⟩) :: ohL (sub nm 1) vs 0 L)) ?_
 simp +contextual -dsimp (maxSteps := 2000000) only [↓SD, SU, SB, simprocAttr, hold, h29, h4, hr, low_beq, false_and]
 refine ⟨hpLe_app.2 ⟨hpLe_low hoT (by omega), ?_, hpLe_c hHL2 (fun p hp e => by have := ohL_ge p hp; omega)⟩, v, vs, vt, rfl, rfl⟩
 rw [hg_ne (by decide), hold 29 (by decide), h29]
end Go.Proofs.YtjifpdcflankpaaGreat

namespace Go.Proofs.YtjifpdcflankpaaGreat
open Go.RowKit Go.Proofs.YtjifpdcflankpaaGreat.Av Go.Proofs.YtjifpdcflankpaaGreat.Ml
open Go.Proofs.YtjifpdcflankpaaGreat.Av.AVal (av)
open OVal (ov oh on)

theorem coreS_oks {n : Node} : ∀ {ks : List Tr}, (∀ k ∈ ks, ∀ env, (coreS k env).ok) → ∀ i env, Tr.oks (coreSs n i ks env)
 | [], _, i, env => by rw [coreSs, Tr.oks]; trivial
 | t :: ts, h, i, env => by rw [coreSs, Tr.oks]; exact ⟨h t (by simp) _, coreS_oks (fun k hk => h k (by simp [hk])) _ _⟩
theorem coreS_ok : ∀ (t : Tr), t.ok → t.all nodeC → ∀ env, (coreS t env).ok := Tr.ind fun n ks ih hok hc env => by
 rw [Tr.ok] at hok
 rw [Tr.all] at hc
 have hN := coreN_kind n env
 have h1 := coreN_w hc.1 env n.kids.length
 have h2 := bulk_node n
 have h3 := bulk_node (coreN n env)
 rw [hN.2.2.1] at h3
 rw [coreS, Tr.ok, coreSs_len]
 refine ⟨⟨fun h => hok.1.1 (hN.1 ▸ h), fun h => ?_, ?_⟩, coreS_oks (fun k hk => ih k hk (oks_mem hok.2 hk) (alls_mem hc.2 hk)) _ _⟩
 ·rw [hN.2.2.2, List.length_map]; exact hok.1.2.1 (hN.1 ▸ h)
 ·have := hok.1.2.2; omega
theorem coreW_two (t : Tr) (env : List ByteArray) : (∃ t', coreT t env = some t' ∧ coreW t env = .tup [av t', .bool true]) ∨ (coreT t env = none ∧ ∃ x, coreW t env = .tup [x, .bool false]) := by
 unfold coreW
 cases h : coreT t env with
 | some t' => exact .inl ⟨t', rfl, rfl⟩
 | none => obtain ⟨n, ks⟩ := t; exact .inr ⟨rfl, _, rfl⟩
def ToCorePost (nm : Nat) (p : Program) (b : Bool) (r : AV) (hp' : Hp) : Prop := ∃ vs, r = .tup [ov nm vs p, .bool b] ∧ hp' = oh nm vs p
theorem implToCore_ok (nm : Nat) (p : Program) (hx : Bulk.bulk p ≤ 4294967296) : CallsH Tryz.prog 10 [av p] [] (ToCorePost nm (toCoreR p) (toCoreB p)) := by
 have hno : toCoreO p = none → CallsH Tryz.prog 10 [av p] [] (fun r hp' => r = .tup [.agg [.nils, .nils], .bool false] ∧ hp' = []) → CallsH Tryz.prog 10 [av p] [] (ToCorePost nm (toCoreR p) (toCoreB p)) := fun ho h => callsH_goes h fun r hp' hr => by
  obtain ⟨rfl, rfl⟩ := hr
  rw [toCoreR, toCoreB, ho, show (none : Option Program).getD ⟨[], []⟩ = ⟨[], []⟩ from rfl]
  refine Goes.newT 0 0 0 (sub nm 0) 74 3 rfl rfl rfl fun u => ?_
  refine Goes.newT 0 0 1 (sub nm 1) 44 6 rfl rfl rfl fun v => ?_
  have hne : sub nm 1 ≠ sub nm 0 := fun e => by have := (sub_inj e).2; omega
  refine Goes.le (t := ⟨[(0, .tup [.agg [.row (sub nm 0) u 0, .row (sub nm 1) v 0], .bool false])], [(sub nm 0, ⟨u, false, 74, 3, []⟩), (sub nm 1, ⟨v, false, 44, 6, []⟩)]⟩) ⟨fun q => if q = sub nm 0 then u else v, ?_, ?_⟩ (by simp +contextual -dsimp only [↓SD, SU, SB, simprocAttr]) ⟨?_, hg_eq, trivial⟩
  ·rw [ov_Program, if_pos rfl, if_neg hne]; rfl
  ·rw [oh_Program, oh_list, oh_list, ohL_nil, lbox, lbox, if_pos rfl, if_neg hne]; rfl
  ·rw [hg_ne hne]; exact hg_eq
 obtain ⟨q1, q2, q3, q4⟩ := prog_small hx
 have C := implProgramOk_ok p hx
 rw [av_Program] at C
 cases hb : progB p with
 | false =>
  rw [hb] at C
  refine hno (by rw [toCoreO, if_neg (by rw [hb]; simp)]) (ir_impl_ToCore_H.H rfl ?_)
  simp +contextual -dsimp (maxSteps := 2000000) only [↓SD, SU, SB, simprocAttr, ir_impl_ToCore_H, av_Program]
  intro v2
  refine aCallK_of _ C ?_
  simp +contextual -dsimp (maxSteps := 2000000) only [↓SD, SU, SB, simprocAttr]
  refine Goes.post [] ?_
  simp +contextual -dsimp (maxSteps := 2000000) only [↓SD, SU, SB, simprocAttr]
 | true =>
  rw [hb] at C
  obtain ⟨h1, h2, h3, h4, h5, h6⟩ := tree_facts hx hb
  obtain ⟨f1, f2, f3, f4, f5⟩ := prog_facts hx hb
  have hk : ∀ i, i < p.nodes.length → ∀ k ∈ nkids p.nodes i, (i : Int) < k ∧ k < p.nodes.length := fun i hi k hk => tree_in f3 hi hk
  have G := grow_ok p.nodes hk q2 f5 p.nodes.length 0 (by omega) (by omega)
  rw [show growT p.nodes p.nodes.length 0 = treeAt p.nodes 0 from rfl] at G
  have K := callsF_argNil (a := [av (treeAt p.nodes 0)]) (b := []) (core_ok _ h1 h3 [] (by simp only [List.length_nil]; omega))
  have hcs := coreT_as _ h1 h2 []
  rcases coreW_two (treeAt p.nodes 0) [] with ⟨t', ht, hW⟩ | ⟨ht, x, hW⟩
  ·rw [hW] at K
   have hS : t' = coreS (treeAt p.nodes 0) [] := by
    rw [ht] at hcs
    split at hcs
    ·exact Option.some.inj hcs
    ·cases hcs
   have hok : t'.ok := by rw [hS]; exact coreS_ok _ h1 h2 []
   have hsz : t'.size ≤ 4294967296 := by rw [hS, coreS_size]; omega
   have hO : toCoreO p = some ⟨p.types, layT 0 t'⟩ := by rw [toCoreO, if_pos hb, ht]; rfl
   have hR : toCoreR p = ⟨p.types, layT 0 t'⟩ := by rw [toCoreR, hO]; rfl
   have hB : toCoreB p = true := by rw [toCoreB, hO]; rfl
   have PO := programOfO_ok nm p.types t' hok hsz q1
   rw [hR, hB]
   refine ir_impl_ToCore_H.H rfl ?_
   clear hcs hW hO hR hB hS ht
   generalize treeAt p.nodes 0 = T at *
   simp +contextual -dsimp (maxSteps := 2000000) only [↓SD, SU, SB, simprocAttr, ir_impl_ToCore_H, av_Program]
   intro v2
   refine aCallK_of _ C ?_
   simp +contextual -dsimp (maxSteps := 2000000) only [↓SD, SU, SB, simprocAttr]
   refine aCallK_of _ G ?_
   simp +contextual -dsimp (maxSteps := 2000000) only [↓SD, SU, SB, simprocAttr, tr_purA]
   refine aCallK_of _ K ?_
   simp +contextual -dsimp (maxSteps := 2000000) only [↓SD, SU, SB, simprocAttr, tr_purA]
   refine aCallH_gen [] PO (by simp +contextual -dsimp only [↓SD, SU, SB, simprocAttr, tr_purA]) ?_
   rintro r hp' ⟨vs, rfl, rfl⟩ H hH
   rw [hrest_no] at hH
   generalize layT 0 t' = L at *
   have l0 : hpLe H (oh nm vs (⟨p.types, L⟩ : Program)) := by rw [hH]; exact hpLe_l (OVal.self _ _ _)
   have l0' := l0
   rw [oh_Program, hpLe_app] at l0'
   have r0 := hpLe_root l0'.1
   have r1 := hpLe_root l0'.2
   have h2 : hget H 2 = some ⟨v2, false, 30, 2, [.agg [.nils, .nils]]⟩ := by
    rw [hH, oh_Program, hg_app_r (fun q hq e => by
     rcases List.mem_append.1 hq with h | h
     ·have := (OVal.inh h).ge; omega
     ·have := (OVal.inh h).ge; omega)]
    exact hg_eq
   simp +contextual -dsimp (maxSteps := 2000000) only [↓SD, SU, SB, simprocAttr, ov_Program, h2, r0, r1, low_beq, false_and]
   refine Goes.post (oh nm vs (⟨p.types, L⟩ : Program)) ?_
   simp +contextual -dsimp (maxSteps := 2000000) only [↓SD, SU, SB, simprocAttr, r0, r1, low_beq, false_and]
   refine ⟨?_, vs, by rw [ov_Program], rfl⟩
   rw [oh_Program] at l0 ⊢
   exact hpLe_c l0 (fun q hq e => by
    rcases List.mem_append.1 hq with h | h
    ·have := (OVal.inh h).ge; omega
    ·have := (OVal.inh h).ge; omega)
  ·rw [hW] at K
   refine hno (by rw [toCoreO, if_pos hb, ht]; rfl) (ir_impl_ToCore_H.H rfl ?_)
   simp +contextual -dsimp (maxSteps := 2000000) only [↓SD, SU, SB, simprocAttr, ir_impl_ToCore_H, av_Program]
   intro v2
   refine aCallK_of _ C ?_
   simp +contextual -dsimp (maxSteps := 2000000) only [↓SD, SU, SB, simprocAttr]
   refine aCallK_of _ G ?_
   simp +contextual -dsimp (maxSteps := 2000000) only [↓SD, SU, SB, simprocAttr, tr_purA]
   refine aCallK_of _ K ?_
   simp +contextual -dsimp (maxSteps := 2000000) only [↓SD, SU, SB, simprocAttr, tr_purA]
   refine Goes.post [] ?_
   simp +contextual -dsimp (maxSteps := 2000000) only [↓SD, SU, SB, simprocAttr]
theorem specToCore_ok (p : Program) (hx : Bulk.bulk p ≤ 4294967296) : CallsF Tryz.prog 8 [av p] (.tup [av (toCoreR p), .bool (toCoreB p)]) := by
 have hno : toCoreO p = none → CallsF Tryz.prog 8 [av p] (.tup [.agg [.nils, .nils], .bool false]) → CallsF Tryz.prog 8 [av p] (.tup [av (toCoreR p), .bool (toCoreB p)]) := fun ho h => by
  rw [toCoreR, toCoreB, ho, show (none : Option Program).getD ⟨[], []⟩ = ⟨[], []⟩ from rfl, av_Program]
  refine callsF_weaker h fun S w v h => ?_
  have := Av.VR.tupSet (off := 0) (y := .agg [.sl [], .sl []]) h (fun x u hx hu => by
   cases hx
   have h1 := Av.VR.aggSet (off := 0) (y := .sl []) hu rfl (fun x u hx hu => by cases hx; cases hu; exact .sl0 none 0 (Nat.zero_le _))
   exact Av.VR.aggSet (off := 1) (y := .sl []) h1 rfl (fun x u hx hu => by cases hx; cases hu; exact .sl0 none 0 (Nat.zero_le _)))
  exact this
 have hpn : AvPure (.tup [.agg [.nils, .nils], .bool false]) := AvPure.tup (by simp; exact ⟨AvPure.agg (by simp; exact AvPure.nils), AvPure.bool _⟩)
 obtain ⟨q1, q2, q3, q4⟩ := prog_small hx
 have C := specProgramOk_ok p hx
 rw [av_Program] at C
 cases hb : progB p with
 | false =>
  rw [hb] at C
  refine hno (by rw [toCoreO, if_neg (by rw [hb]; simp)]) (ir_spec_ToCore.F rfl (by simp; exact AVal.clean p) hpn ?_)
  simp +contextual -dsimp (maxSteps := 2000000) only [↓SD, SU, SB, simprocAttr, ir_spec_ToCore, av_Program]
  intro v2
  refine aCallK_of _ C ?_
  simp +contextual -dsimp (maxSteps := 2000000) only [↓SD, SU, SB, simprocAttr]
 | true =>
  rw [hb] at C
  obtain ⟨h1, h2, h3, h4, h5, h6⟩ := tree_facts hx hb
  obtain ⟨f1, f2, f3, f4, f5⟩ := prog_facts hx hb
  have hk : ∀ i, i < p.nodes.length → ∀ k ∈ nkids p.nodes i, (i : Int) < k ∧ k < p.nodes.length := fun i hi k hk => tree_in f3 hi hk
  have G := l09Sub_ok p hk q2 p.nodes.length 0 (by omega) (by omega)
  rw [show growT p.nodes p.nodes.length 0 = treeAt p.nodes 0 from rfl, av_Program] at G
  have K := callsF_argNil (a := [av (Sub.mk (treeAt p.nodes 0))]) (b := []) (l15Core_ok _ h1 [] (by simp only [List.length_nil]; omega))
  have hO := toCore_as hx hb
  cases hB : coreB (treeAt p.nodes 0) [] with
  | false =>
   rw [hB] at hO K
   refine hno (by rw [hO]; rfl) (ir_spec_ToCore.F rfl (by simp; exact AVal.clean p) hpn ?_)
   generalize coreS (treeAt p.nodes 0) [] = T' at *
   generalize treeAt p.nodes 0 = T at *
   simp +contextual -dsimp (maxSteps := 2000000) only [↓SD, SU, SB, simprocAttr, ir_spec_ToCore, av_Program]
   intro v2
   refine aCallK_of _ C ?_
   simp +contextual -dsimp (maxSteps := 2000000) only [↓SD, SU, SB, simprocAttr]
   refine aCallK_of _ G ?_
   simp +contextual -dsimp (maxSteps := 2000000) only [↓SD, SU, SB, simprocAttr, sub_purA]
   refine aCallK_of _ K ?_
   simp +contextual -dsimp (maxSteps := 2000000) only [↓SD, SU, SB, simprocAttr, sub_purA, sub_len, sub_agg, sub_pur, sub_ok]
  | true =>
   rw [hB] at hO K
   have hR : toCoreR p = ⟨p.types, layT 0 (coreS (treeAt p.nodes 0) [])⟩ := by rw [toCoreR, hO]; rfl
   have hBB : toCoreB p = true := by rw [toCoreB, hO]; rfl
   have hsz : (coreS (treeAt p.nodes 0) []).size ≤ 4294967296 := by rw [coreS_size]; omega
   rw [hR, hBB]
   have CT := l15Types_ok p.types q1
   have CL := l03LayF_ok _ hsz
   refine ir_spec_ToCore.F rfl (by simp; exact AVal.clean p) (AvPure.tup (by simp; exact ⟨AVal.clean _, AvPure.bool _⟩)) ?_
   clear hO hB hR hBB
   generalize coreS (treeAt p.nodes 0) [] = T' at *
   generalize treeAt p.nodes 0 = T at *
   have hlm : ∀ hp, ((layT 0 T').map (av : Node → AV)).map (AV.pur hp) = (layT 0 T').map av := fun hp => map_nop _ hp
   have htm : ∀ hp, (p.types.map (av : TypeD → AV)).map (AV.pur hp) = p.types.map av := fun hp => map_nop _ hp
   simp +contextual -dsimp (maxSteps := 2000000) only [↓SD, SU, SB, simprocAttr, ir_spec_ToCore, av_Program]
   intro v2
   refine aCallK_of _ C ?_
   simp +contextual -dsimp (maxSteps := 2000000) only [↓SD, SU, SB, simprocAttr]
   refine aCallK_of _ G ?_
   simp +contextual -dsimp (maxSteps := 2000000) only [↓SD, SU, SB, simprocAttr, sub_purA]
   refine aCallK_of _ K ?_
   simp +contextual -dsimp (maxSteps := 2000000) only [↓SD, SU, SB, simprocAttr, sub_purA, sub_len, sub_agg, sub_pur, sub_ok]
   intro v4
   refine aCallK_of _ CT ?_
   simp +contextual -dsimp (maxSteps := 2000000) only [↓SD, SU, SB, simprocAttr, sub_purA, sub_len, sub_agg, sub_pur, sub_ok]
   refine aCallK_of _ CL ?_
   simp +contextual -dsimp (maxSteps := 2000000) only [↓SD, SU, SB, simprocAttr, hlm, htm]
end Go.Proofs.YtjifpdcflankpaaGreat

namespace Go.Proofs.YtjifpdcflankpaaGreat
open Go.RowKit Go.Proofs.YtjifpdcflankpaaGreat.Av Go.Proofs.YtjifpdcflankpaaGreat.Ml
open Go.Proofs.YtjifpdcflankpaaGreat.Av.AVal (av)

theorem l01Digits_ok (k : Nat) : k ≤ 9223372036854775808 → CallsF Tryz.prog 186 [.int .i64 (-(k : Int))] (.str (digS k)) := by
 induction k using Nat.strongRecOn with
 | _ k ih =>
  intro hk
  refine ir_spec_l01Digits.F rfl (by simp; exact pint _) (AvPure.str _) ?_
  by_cases h10 : k < 10
  ·have h1 : -10 < -(k : Int) := by omega
   have h2 : (48 : Int) - -(k : Int) = ((48 + k : Nat) : Int) := by omega
   rw [digS_small h10]
   simp +contextual -dsimp only [↓SD, SU, SB, Nat.reduceAdd, Nat.reduceBEq, Nat.reduceEqDiff, Nat.reduceLeDiff, Nat.reduceLT, Nat.reduceSub, ↓reduceIte, reduceCtorEq, Int.reduceToNat, Int.reduceEq, Int.reduceLT, Int.reduceLE, Int.reduceNeg, Int.reduceAdd, Int.reduceSub, ir_spec_l01Digits, h1]
   refine ⟨by omega, by omega, ?_⟩
   refine b2s_of _ _ [UInt8.ofNat (48 + k)] rfl (by rw [List.map_cons, List.map_nil, av_byte _ (by omega), ← h2]) ?_
   simp +contextual -dsimp only [↓SD, SU, SB, Nat.reduceAdd, Nat.reduceBEq, Nat.reduceEqDiff, Nat.reduceLeDiff, Nat.reduceLT, Nat.reduceSub, ↓reduceIte, reduceCtorEq, Int.reduceToNat]
  ·have h1 : ¬ -10 < -(k : Int) := by omega
   have h2 : (-(k : Int)).tdiv 10 = -((k / 10 : Nat) : Int) := by rw [Int.neg_tdiv, Int.tdiv_eq_ediv_of_nonneg (by omega)]; rfl
   have h3 : (-(k : Int)).tmod 10 = -((k % 10 : Nat) : Int) := by rw [Int.neg_tmod, Int.tmod_eq_emod_of_nonneg (by omega)]; rfl
   have h4 : (48 : Int) - -((k % 10 : Nat) : Int) = ((48 + k % 10 : Nat) : Int) := by omega
   have C := ih (k / 10) (by omega) (by omega)
   have hs := digS_le (k / 10) (by omega)
   rw [digS_great h10]
   simp +contextual -dsimp only [↓SD, SU, SB, Nat.reduceAdd, Nat.reduceBEq, Nat.reduceEqDiff, Nat.reduceLeDiff, Nat.reduceLT, Nat.reduceSub, ↓reduceIte, reduceCtorEq, Int.reduceToNat, Int.reduceEq, Int.reduceLT, Int.reduceLE, Int.reduceNeg, Int.reduceAdd, Int.reduceSub, ir_spec_l01Digits, h1, h2, h3]
   refine ⟨by omega, ?_⟩
   refine aCallK_of _ C ?_
   simp +contextual -dsimp only [↓SD, SU, SB, Nat.reduceAdd, Nat.reduceBEq, Nat.reduceEqDiff, Nat.reduceLeDiff, Nat.reduceLT, Nat.reduceSub, ↓reduceIte, reduceCtorEq, Int.reduceToNat, Int.reduceEq, Int.reduceLT, Int.reduceLE, Int.reduceNeg, Int.reduceAdd, Int.reduceSub, h3, h4]
   refine ⟨by omega, by omega, by omega, ?_⟩
   refine b2s_of _ _ [UInt8.ofNat (48 + k % 10)] rfl (by rw [List.map_cons, List.map_nil, av_byte _ (by omega)]) ?_
   simp +contextual -dsimp only [↓SD, SU, SB, Nat.reduceAdd, Nat.reduceBEq, Nat.reduceEqDiff, Nat.reduceLeDiff, Nat.reduceLT, Nat.reduceSub, ↓reduceIte, reduceCtorEq, Int.reduceToNat]
   have h5 : (⟨[UInt8.ofNat (48 + k % 10)].toArray⟩ : ByteArray).size = 1 := rfl
   unfold maxLen; omega
theorem wrap_id (n : Int) (h : -9223372036854775808 ≤ n ∧ n ≤ 9223372036854775807) : (IntKind.i64.wrap (n * 2) / 2 = n) ↔ (-4611686018427387904 ≤ n ∧ n ≤ 4611686018427387903) := by
 rw [IntKind.wrap_i64]
 omega
theorem specWrap_ok (n : Int) (h : -9223372036854775808 ≤ n ∧ n ≤ 9223372036854775807) : CallsF Tryz.prog 185 [.int .i64 n] (.int .i64 (IntKind.i64.wrap (n * 2) / 2)) := by
 refine ir_spec_Wrap.F rfl (by simp; exact pint _) (pint _) ?_
 have e1 : min 1 IntKind.i64.bits = 1 := rfl
 have e2 : ∀ x : Int, x.fdiv (2 ^ 1) = x / 2 := fun x => by rw [Int.fdiv_eq_ediv_of_nonneg _ (by decide)]; rfl
 have e3 : n * 2 ^ 1 = n * 2 := rfl
 simp +contextual -dsimp only [↓SD, SU, SB, Nat.reduceAdd, Nat.reduceBEq, Nat.reduceEqDiff, Nat.reduceLeDiff, Nat.reduceLT, Nat.reduceSub, ↓reduceIte, reduceCtorEq, Int.reduceToNat, Int.reduceEq, Int.reduceLT, Int.reduceLE, Int.reduceNeg, Int.reduceAdd, Int.reduceSub, ir_spec_Wrap, e1, e2, e3]
 rw [IntKind.wrap_i64]
 omega
theorem specNumText_ok (n : Int) (hn : -9223372036854775808 ≤ n ∧ n ≤ 9223372036854775807) : CallsF Tryz.prog 171 [.int .i64 n] (.str (numS n)) := by
 refine ir_spec_NumText.F rfl (by simp; exact pint _) (AvPure.str _) ?_
 have C := specWrap_ok n hn
 have W := wrap_id n hn
 simp +contextual -dsimp only [↓SD, SU, SB, Nat.reduceAdd, Nat.reduceBEq, Nat.reduceEqDiff, Nat.reduceLeDiff, Nat.reduceLT, Nat.reduceSub, ↓reduceIte, reduceCtorEq, Int.reduceToNat, Int.reduceEq, Int.reduceLT, Int.reduceLE, Int.reduceNeg, Int.reduceAdd, Int.reduceSub, ir_spec_NumText]
 refine aCallK_of _ C ?_
 by_cases hin : -4611686018427387904 ≤ n ∧ n ≤ 4611686018427387903
 ·have hw := W.2 hin
  by_cases h0 : n < 0
  ·have hS : numS n = ⟨#[45]⟩ ++ digS (-n).toNat := by unfold numS; rw [if_pos hin, if_pos h0]
   obtain ⟨k, rfl⟩ : ∃ k : Nat, n = -(k : Int) := ⟨(-n).toNat, by omega⟩
   have hs := digS_le k (by omega)
   have hk : (-(-(k : Int))).toNat = k := by omega
   rw [hS, hk]
   simp +contextual -dsimp only [↓SD, SU, SB, Nat.reduceAdd, Nat.reduceBEq, Nat.reduceEqDiff, Nat.reduceLeDiff, Nat.reduceLT, Nat.reduceSub, ↓reduceIte, reduceCtorEq, Int.reduceToNat, Int.reduceEq, Int.reduceLT, Int.reduceLE, Int.reduceNeg, Int.reduceAdd, Int.reduceSub, hw, h0]
   refine aCallK_of _ (l01Digits_ok k (by omega)) ?_
   have hb : bs [45] = (⟨#[45]⟩ : ByteArray) := rfl
   simp +contextual -dsimp only [↓SD, SU, SB, Nat.reduceAdd, Nat.reduceBEq, Nat.reduceEqDiff, Nat.reduceLeDiff, Nat.reduceLT, Nat.reduceSub, ↓reduceIte, reduceCtorEq, Int.reduceToNat, Int.reduceEq, Int.reduceLT, Int.reduceLE, Int.reduceNeg, Int.reduceAdd, Int.reduceSub, hb]
   have h1 : (⟨#[45]⟩ : ByteArray).size = 1 := rfl
   unfold maxLen; omega
  ·have hS : numS n = digS n.toNat := by unfold numS; rw [if_pos hin, if_neg h0]
   obtain ⟨k, rfl⟩ : ∃ k : Nat, n = (k : Int) := ⟨n.toNat, by omega⟩
   rw [hS, Int.toNat_natCast]
   simp +contextual -dsimp only [↓SD, SU, SB, Nat.reduceAdd, Nat.reduceBEq, Nat.reduceEqDiff, Nat.reduceLeDiff, Nat.reduceLT, Nat.reduceSub, ↓reduceIte, reduceCtorEq, Int.reduceToNat, Int.reduceEq, Int.reduceLT, Int.reduceLE, Int.reduceNeg, Int.reduceAdd, Int.reduceSub, hw, h0]
   refine ⟨by omega, ?_⟩
   refine aCallK_of _ (l01Digits_ok k (by omega)) ?_
   simp +contextual -dsimp only [↓SD, SU, SB, Nat.reduceAdd, Nat.reduceBEq, Nat.reduceEqDiff, Nat.reduceLeDiff, Nat.reduceLT, Nat.reduceSub, ↓reduceIte, reduceCtorEq, Int.reduceToNat, Int.reduceEq, Int.reduceLT, Int.reduceLE, Int.reduceNeg, Int.reduceAdd, Int.reduceSub]
 ·have hw : ¬ IntKind.i64.wrap (n * 2) / 2 = n := fun h => hin (W.1 h)
  have hS : numS n = ⟨#[]⟩ := by unfold numS; rw [if_neg hin]
  rw [hS]
  simp +contextual -dsimp only [↓SD, SU, SB, Nat.reduceAdd, Nat.reduceBEq, Nat.reduceEqDiff, Nat.reduceLeDiff, Nat.reduceLT, Nat.reduceSub, ↓reduceIte, reduceCtorEq, Int.reduceToNat, Int.reduceEq, Int.reduceLT, Int.reduceLE, Int.reduceNeg, Int.reduceAdd, Int.reduceSub, hw]
  first | done | rfl

def RevPost (k v : Nat) (l : List UInt8) (r : AV) (hp' : Hp) : Prop := r = .tup [] ∧ hp' = [(k, ⟨v, false, 5, 1, l.reverse.map av⟩)]
theorem Reverse8_ok (k v : Nat) (l : List UInt8) (hl : l.length ≤ 4294967296) : CallsH Tryz.prog 172 [.row k v l.length] [(k, ⟨v, false, 5, 1, l.map av⟩)] (RevPost k v l) := by
 refine ir_slices_Reverse_byte_byte.H rfl ?_
 simp +contextual -dsimp only [↓SD, SU, SB, Nat.reduceAdd, Nat.reduceBEq, Nat.reduceEqDiff, Nat.reduceLeDiff, Nat.reduceLT, Nat.reduceSub, ↓reduceIte, reduceCtorEq, Int.reduceToNat, Int.reduceEq, Int.reduceLT, Int.reduceLE, Int.reduceNeg, Int.reduceAdd, Int.reduceSub, ir_slices_Reverse_byte_byte, map_len]
 refine ⟨by omega, ?_⟩
 refine aLoop_of (X := Nat) (fun i => ⟨[(0, .row k v l.length), (2, .int .i64 i), (3, .int .i64 ((l.length : Int) - 1 - i))], [(k, ⟨v, false, 5, 1, (turnL 0 l i).map av⟩)]⟩) (fun i => 2 * i ≤ l.length + 1) (fun i => l.length - i) 0 (by simp) (by simp +contextual -dsimp only [↓SD, SU, SB, Nat.reduceAdd, Nat.reduceBEq, Nat.reduceEqDiff, Nat.reduceLeDiff, Nat.reduceLT, Nat.reduceSub, ↓reduceIte, reduceCtorEq, Int.reduceToNat, Int.natCast_zero, Int.sub_zero]) (by simp +contextual -dsimp only [↓SD, SU, SB, Nat.reduceAdd, Nat.reduceBEq, Nat.reduceEqDiff, Nat.reduceLeDiff, Nat.reduceLT, Nat.reduceSub, ↓reduceIte, reduceCtorEq, Int.reduceToNat, turnL_zero]) ?_
 rintro i hi
 by_cases hlt : 2 * i + 1 < l.length
 ·have h1 : (i : Int) < (l.length : Int) - 1 - i := by omega
  obtain ⟨j, hj⟩ : ∃ j : Nat, j = l.length - 1 - i := ⟨_, rfl⟩
  have h2 : ((l.length : Int) - 1 - i) = (j : Int) := by omega
  have hjl : j < l.length := by omega
  have hil : i < l.length := by omega
  have ei := getD_map av (turnL 0 l i) i .top (by rw [turnL_len]; omega)
  have ej := getD_map av (turnL 0 l i) j .top (by rw [turnL_len]; omega)
  rw [turnL_get 0 l hil (by omega) (by omega)] at ei
  rw [turnL_get 0 l hjl (by omega) (by omega)] at ej
  have hst := turnL_step 0 l hlt
  rw [h2] at h1
  have hne : i ≠ j := by omega
  have es : ((turnL 0 l i).map av).set i (.int .u8 l[j].toNat) = ((turnL 0 l i).set i l[j]).map av := by rw [List.map_set]; rfl
  have ej2 := getD_map av ((turnL 0 l i).set i l[j]) j .top (by rw [List.length_set, turnL_len]; omega)
  rw [List.getElem_set, if_neg hne, turnL_get 0 l hjl (by omega) (by omega)] at ej2
  have es2 : (((turnL 0 l i).set i l[j]).map av).set j (.int .u8 l[i].toNat) = (((turnL 0 l i).set i l[j]).set j l[i]).map av := by simp only [List.map_set]; rfl
  have hst2 : ((turnL 0 l i).set i l[j]).set j l[i] = turnL 0 l (i + 1) := by subst hj; exact hst
  rw [hst2] at es2
  have hlen : ((turnL 0 l i).set i l[j]).length = l.length := by rw [List.length_set, turnL_len]
  simp +contextual -dsimp only [↓SD, SU, SB, Nat.reduceAdd, Nat.reduceBEq, Nat.reduceEqDiff, Nat.reduceLeDiff, Nat.reduceLT, Nat.reduceSub, ↓reduceIte, reduceCtorEq, Int.reduceToNat, map_len, turnL_len, h1, h2, hil, hjl, ei, ej, av_u8, es, ej2, es2, hlen]
  refine ⟨by omega, by omega, Goes.le ⟨i + 1, ⟨by omega, (by first | omega | (simp only; omega))⟩, rfl⟩ ?_ (by simp +contextual -dsimp only [↓SD, SU, SB, Nat.reduceAdd, Nat.reduceBEq, Nat.reduceEqDiff, Nat.reduceLeDiff, Nat.reduceLT, Nat.reduceSub, ↓reduceIte, reduceCtorEq, Int.reduceToNat])⟩
  have h3 : (l.length : Int) - 1 - ((i : Int) + 1) = (j : Int) - 1 := by omega
  simp +contextual -dsimp only [↓SD, SU, SB, Nat.reduceAdd, Nat.reduceBEq, Nat.reduceEqDiff, Nat.reduceLeDiff, Nat.reduceLT, Nat.reduceSub, ↓reduceIte, reduceCtorEq, Int.reduceToNat, Int.natCast_add, h3]
 ·have h1 : ¬ (i : Int) < (l.length : Int) - 1 - i := by omega
  simp +contextual -dsimp only [↓SD, SU, SB, Nat.reduceAdd, Nat.reduceBEq, Nat.reduceEqDiff, Nat.reduceLeDiff, Nat.reduceLT, Nat.reduceSub, ↓reduceIte, reduceCtorEq, Int.reduceToNat, map_len, turnL_len, h1]
  refine Goes.post [(k, ⟨v, false, 5, 1, l.reverse.map av⟩)] ?_
  rw [turnL_end 0 l (by omega)]
  simp +contextual -dsimp only [↓SD, SU, SB, Nat.reduceAdd, Nat.reduceBEq, Nat.reduceEqDiff, Nat.reduceLeDiff, Nat.reduceLT, Nat.reduceSub, ↓reduceIte, reduceCtorEq, Int.reduceToNat]
  exact ⟨rfl, rfl⟩

theorem aTail_row {hp : Hp} {k v n : Nat} {b : Box} (hk : hget hp k = some b) (hv : b.ver = v) (hn : n = b.es.length) : aTail hp (.row k v n) = some b.es := by
 unfold aTail
 simp only [hk, hv, hn, true_and, Nat.le_refl, if_true, List.take_length]
structure DS where
 m : Nat
 l : List UInt8
 v : Nat
def DSpre (N : Nat) (x : DS) : Prop := x.m ≤ N ∧ ((0 < x.m ∨ x.l = []) → dig N = dig x.m ++ x.l.reverse) ∧ (x.m = 0 → x.l ≠ [] → dig N = x.l.reverse)
theorem DSpre_len {N : Nat} {x : DS} (hN : N ≤ 9223372036854775808) (h : DSpre N x) : x.l.length ≤ 20 := by
 have := dig_len 20 N (by decide) (by omega)
 by_cases hm : 0 < x.m ∨ x.l = []
 ·have h2 := h.2.1 hm
  rw [h2] at this; simp at this; omega
 ·have h2 := h.2.2 (by omega) (fun e => hm (.inr e))
  rw [h2] at this; simpa using this
theorem DSpre_step {N : Nat} {x : DS} (h : DSpre N x) (hm : 0 < x.m ∨ x.l = []) (v : Nat) : DSpre N ⟨x.m / 10, x.l ++ [UInt8.ofNat (48 + x.m % 10)], v⟩ := by
 have h2 := h.2.1 hm
 refine ⟨?_, ?_, ?_⟩
 ·have := Nat.div_le_self x.m 10; have := h.1; simp only; omega
 ·intro h3
  simp only [List.append_eq_nil_iff, reduceCtorEq, and_false, or_false] at h3
  rw [h2, dig_great (by omega)]; simp
 ·intro h3 _
  simp only at h3
  rw [h2, dig_small (by omega)]
  have : x.m % 10 = x.m := by omega
  simp [this]
theorem digits_ok (N : Nat) (hN : N ≤ 9223372036854775807) : CallsF Tryz.prog 143 [.int .i64 (N : Int)] (.str (digS N)) := by
 refine ir_impl_digits.F rfl (by simp; exact pint _) (AvPure.str _) ?_
 simp +contextual -dsimp only [↓SD, SU, SB, Nat.reduceAdd, Nat.reduceBEq, Nat.reduceEqDiff, Nat.reduceLeDiff, Nat.reduceLT, Nat.reduceSub, ↓reduceIte, reduceCtorEq, Int.reduceToNat, Int.reduceEq, Int.reduceLT, Int.reduceLE, Int.reduceNeg, Int.reduceAdd, Int.reduceSub, ir_impl_digits]
 intro v
 refine aLoop_of (X := DS) (fun x => ⟨[(0, .int .i64 (x.m : Int)), (3, .row 4 x.v x.l.length)], [(4, ⟨x.v, false, 5, 1, x.l.map av⟩)]⟩) (DSpre N) (fun x => 2 * x.m + (if x.l = [] then 1 else 0)) ⟨N, [], v⟩ ⟨Nat.le_refl _, fun _ => by simp, fun _ h => absurd rfl h⟩ (by simp +contextual -dsimp only [↓SD, SU, SB, Nat.reduceAdd, Nat.reduceBEq, Nat.reduceEqDiff, Nat.reduceLeDiff, Nat.reduceLT, Nat.reduceSub, ↓reduceIte, reduceCtorEq, Int.reduceToNat]) (by simp +contextual -dsimp only [↓SD, SU, SB, Nat.reduceAdd, Nat.reduceBEq, Nat.reduceEqDiff, Nat.reduceLeDiff, Nat.reduceLT, Nat.reduceSub, ↓reduceIte, reduceCtorEq, Int.reduceToNat]) ?_
 rintro ⟨m, l, u⟩ hp
 have hlen := DSpre_len (by omega) hp
 have hmN : m ≤ N := hp.1
 have h48 : (48 : Int) + ((m : Int).tmod 10) = ((48 + m % 10 : Nat) : Int) := by rw [Int.tmod_eq_emod_of_nonneg (by omega)]; rfl
 have h10 : (m : Int).tdiv 10 = ((m / 10 : Nat) : Int) := by rw [Int.tdiv_eq_ediv_of_nonneg (by omega)]; rfl
 have hin : (0 : Int) ≤ (m : Int).tmod 10 ∧ (m : Int).tmod 10 < 10 := by rw [Int.tmod_eq_emod_of_nonneg (by omega)]; omega
 have hstep := fun hm v => DSpre_step hp hm v
 dsimp only at hlen hstep
 have hl2 : List.take l.length (l.map (av : UInt8 → AV)) = l.map av := List.take_of_length_le (by simp)
 have hav : AV.int .u8 (((48 + m % 10 : Nat) : Int)) = av (UInt8.ofNat (48 + m % 10)) := by rw [av_u8, av_byte _ (by omega)]
 by_cases hm : 0 < m ∨ l = []
 ·have hc : (0 < (m : Int)) ∨ (l.length : Int) = 0 := by rcases hm with h | h; exact .inl (by omega); exact .inr (by simp [h])
  have fin : ∀ u', DSpre N ⟨m / 10, l ++ [UInt8.ofNat (48 + m % 10)], u'⟩ ∧ 2 * (m / 10) + (if l ++ [UInt8.ofNat (48 + m % 10)] = [] then 1 else 0) < 2 * m + (if l = [] then 1 else 0) := by
   intro u'
   refine ⟨hstep hm u', ?_⟩
   simp only [List.append_eq_nil_iff, reduceCtorEq, and_false, if_false]
   rcases hm with h | h
   ·split <;> omega
   ·subst h; simp; omega
  clear hstep hp
  by_cases hc0 : 0 < (m : Int)
  ·simp +contextual -dsimp only [↓SD, SU, SB, Nat.reduceAdd, Nat.reduceBEq, Nat.reduceEqDiff, Nat.reduceLeDiff, Nat.reduceLT, Nat.reduceSub, ↓reduceIte, reduceCtorEq, Int.reduceToNat, Int.reduceEq, Int.reduceLT, Int.reduceLE, Int.reduceNeg, Int.reduceAdd, Int.reduceSub, hc0, h48, h10, map_len, hl2, Nat.le_refl]
   refine ⟨by omega, by omega, by omega, ⟨by omega, by unfold maxLen; omega⟩, fun u' => ⟨by omega, Goes.le ⟨⟨m / 10, l ++ [UInt8.ofNat (48 + m % 10)], u'⟩, fin u', rfl⟩ (by simp +contextual -dsimp only [↓SD, SU, SB, Nat.reduceAdd, Nat.reduceBEq, Nat.reduceEqDiff, Nat.reduceLeDiff, Nat.reduceLT, Nat.reduceSub, ↓reduceIte, reduceCtorEq, Int.reduceToNat]; simp) (by simp +contextual -dsimp only [↓SD, SU, SB, Nat.reduceAdd, Nat.reduceBEq, Nat.reduceEqDiff, Nat.reduceLeDiff, Nat.reduceLT, Nat.reduceSub, ↓reduceIte, reduceCtorEq, Int.reduceToNat, List.map_append, hav])⟩⟩
  ·replace hc := hc.resolve_left hc0
   simp +contextual -dsimp only [↓SD, SU, SB, Nat.reduceAdd, Nat.reduceBEq, Nat.reduceEqDiff, Nat.reduceLeDiff, Nat.reduceLT, Nat.reduceSub, ↓reduceIte, reduceCtorEq, Int.reduceToNat, Int.reduceEq, Int.reduceLT, Int.reduceLE, Int.reduceNeg, Int.reduceAdd, Int.reduceSub, hc, hc0, h48, h10, map_len, hl2, Nat.le_refl]
   refine ⟨by omega, by omega, by omega, ⟨by omega, by unfold maxLen; omega⟩, fun u' => ⟨by omega, Goes.le ⟨⟨m / 10, l ++ [UInt8.ofNat (48 + m % 10)], u'⟩, fin u', rfl⟩ (by simp +contextual -dsimp only [↓SD, SU, SB, Nat.reduceAdd, Nat.reduceBEq, Nat.reduceEqDiff, Nat.reduceLeDiff, Nat.reduceLT, Nat.reduceSub, ↓reduceIte, reduceCtorEq, Int.reduceToNat]; simp) (by simp +contextual -dsimp only [↓SD, SU, SB, Nat.reduceAdd, Nat.reduceBEq, Nat.reduceEqDiff, Nat.reduceLeDiff, Nat.reduceLT, Nat.reduceSub, ↓reduceIte, reduceCtorEq, Int.reduceToNat, List.map_append, hav])⟩⟩
 ·have h1 : ¬ 0 < (m : Int) := by omega
  have h2 : ¬ (l.length : Int) = 0 := fun h => hm (.inr (List.length_eq_zero_iff.1 (by omega)))
  have hd : digS N = ⟨l.reverse.toArray⟩ := by unfold digS; rw [hp.2.2 (by simp only; omega) (fun e => hm (.inr e))]
  have hr : AvPure (.str (digS N)) := AvPure.str _
  simp +contextual -dsimp only [↓SD, SU, SB, Nat.reduceAdd, Nat.reduceBEq, Nat.reduceEqDiff, Nat.reduceLeDiff, Nat.reduceLT, Nat.reduceSub, ↓reduceIte, reduceCtorEq, Int.reduceToNat, Int.reduceEq, Int.reduceLT, Int.reduceLE, Int.reduceNeg, Int.reduceAdd, Int.reduceSub, h1, h2, map_len]
  refine aCallH_of [4] (Reverse8_ok 4 u l (by omega)) (by simp +contextual -dsimp only [↓SD, SU, SB, Nat.reduceAdd, Nat.reduceBEq, Nat.reduceEqDiff, Nat.reduceLeDiff, Nat.reduceLT, Nat.reduceSub, ↓reduceIte, reduceCtorEq, Int.reduceToNat]) ?_
  rintro r hp' ⟨rfl, rfl⟩
  simp +contextual -dsimp only [↓SD, SU, SB, Nat.reduceAdd, Nat.reduceBEq, Nat.reduceEqDiff, Nat.reduceLeDiff, Nat.reduceLT, Nat.reduceSub, ↓reduceIte, reduceCtorEq, Int.reduceToNat, Int.reduceEq, Int.reduceLT, Int.reduceLE, Int.reduceNeg, Int.reduceAdd, Int.reduceSub]
  refine b2s_of _ _ l.reverse (aTail_row rfl rfl (by simp)) rfl ?_
  simp +contextual -dsimp only [↓SD, SU, SB, Nat.reduceAdd, Nat.reduceBEq, Nat.reduceEqDiff, Nat.reduceLeDiff, Nat.reduceLT, Nat.reduceSub, ↓reduceIte, reduceCtorEq, Int.reduceToNat, Int.reduceEq, Int.reduceLT, Int.reduceLE, Int.reduceNeg, Int.reduceAdd, Int.reduceSub, hd]
end Go.Proofs.YtjifpdcflankpaaGreat

namespace Go.Proofs.YtjifpdcflankpaaGreat
open Go.RowKit Go.Proofs.YtjifpdcflankpaaGreat.Av Go.Proofs.YtjifpdcflankpaaGreat.Ml
open Go.Proofs.YtjifpdcflankpaaGreat.Av.AVal (av)

end Go.Proofs.YtjifpdcflankpaaGreat

namespace Go.Proofs.YtjifpdcflankpaaGreat
open Go.RowKit Go.Proofs.YtjifpdcflankpaaGreat.Av Go.Proofs.YtjifpdcflankpaaGreat.Ml
open Go.Proofs.YtjifpdcflankpaaGreat.Av.AVal (av)

theorem IndexFunc_Node_ok (l : List Node) (g : FuncId) (caps : List AV) (p : Node → Bool) (hl : l.length ≤ 1099511627776) (hp : ∀ x ∈ caps, AvPure x) (hc : ∀ hp, caps.map (AV.pur1 hp) = caps) (hg : ∀ x ∈ l, CallsF Tryz.prog g (av x :: caps) (.bool (p x))) :
  CallsF Tryz.prog 142 [.sl (l.map av), .fn g caps] (.int .i64 (indexOf l p)) := by
 refine ir_slices_IndexFunc_impl_Node_impl_Node.F rfl (by simp; exact ⟨lav_clean l, AvPure.fn hp⟩) (AvPure.int _ _) ?_
 simp +contextual -dsimp (maxSteps := 2000000) only [↓SD, SU, SB, simprocAttr, ir_slices_IndexFunc_impl_Node_impl_Node, map_len]
 refine aLoop_of (X := Nat) (fun k => ⟨[(0, .sl (l.map av)), (1, .fn g caps), (7, .int .i64 l.length), (8, .int .i64 k)], []⟩) (fun k => k ≤ l.length ∧ (l.take k).all (fun x => !p x) = true) (fun k => l.length - k) 0 ⟨Nat.zero_le _, rfl⟩ (by simp +contextual -dsimp only [↓SD, SU, SB, simprocAttr]) trivial ?_
 intro k ⟨hk, hpk⟩
 by_cases hlt : k < l.length
 ·have e := getD_map av l k .top hlt
  have C := hg l[k] (List.getElem_mem hlt)
  rw [av_Node] at C
  simp +contextual -dsimp (maxSteps := 2000000) only [↓SD, SU, SB, simprocAttr, map_len, e, av_Node, hlt, hc]
  refine aCallK_of _ C ?_
  simp +contextual -dsimp (maxSteps := 2000000) only [↓SD, SU, SB, simprocAttr]
  refine ⟨fun h1 => by rw [indexOf_at hlt hpk h1], fun h1 => ⟨by omega, ?_⟩⟩
  exact Goes.le ⟨k + 1, ⟨⟨hlt, by rw [all_take' _ hlt hpk, h1]; rfl⟩, (by first | omega | (simp only; omega))⟩, rfl⟩ (by simp +contextual -dsimp only [↓SD, SU, SB, simprocAttr, Int.natCast_add]) trivial
 ·obtain rfl : k = l.length := by omega
  rw [List.take_length] at hpk
  simp +contextual -dsimp (maxSteps := 2000000) only [↓SD, SU, SB, simprocAttr, map_len, Nat.lt_irrefl, indexOf_none hpk]
theorem ContainsFunc_Node_ok (l : List Node) (g : FuncId) (caps : List AV) (p : Node → Bool) (hl : l.length ≤ 1099511627776) (hp : ∀ x ∈ caps, AvPure x) (hc : ∀ hp, caps.map (AV.pur1 hp) = caps) (hg : ∀ x ∈ l, CallsF Tryz.prog g (av x :: caps) (.bool (p x))) :
  CallsF Tryz.prog 84 [.sl (l.map av), .fn g caps] (.bool (l.any p)) := by
 refine ir_slices_ContainsFunc_impl_Node_impl_Node.F rfl (by simp; exact ⟨lav_clean l, AvPure.fn hp⟩) (AvPure.bool _) ?_
 simp +contextual -dsimp (maxSteps := 2000000) only [↓SD, SU, SB, simprocAttr, ir_slices_ContainsFunc_impl_Node_impl_Node, hc]
 refine aCallK_of _ (IndexFunc_Node_ok l g caps p hl hp hc hg) ?_
 simp +contextual -dsimp (maxSteps := 2000000) only [↓SD, SU, SB, simprocAttr, indexOf_neg]

end Go.Proofs.YtjifpdcflankpaaGreat

namespace Go.Proofs.YtjifpdcflankpaaGreat
open Go.RowKit Go.Proofs.YtjifpdcflankpaaGreat.Av Go.Proofs.YtjifpdcflankpaaGreat.Ml
open Go.Proofs.YtjifpdcflankpaaGreat.Av.AVal (av)

def dnN (i : Int) : ByteArray := bs [118] ++ numS i
def renK (f : Nat → ByteArray) : Nat → List PNode → List PNode
 | _, [] => []
 | c, n :: r => if n.kind = 2 then { n with s := f c } :: renK f (c + 1) r else n :: renK f c r
def renF (f : Nat → ByteArray) (q : Pat) : Pat := ⟨renK f 0 q.nodes⟩
theorem renK_len (f : Nat → ByteArray) : ∀ (l : List PNode) (c : Nat), (renK f c l).length = l.length
 | [], c => rfl
 | n :: r, c => by rw [renK]; split <;> simp [renK_len f r]
theorem renK_twice (f g : Nat → ByteArray) : ∀ (l : List PNode) (c d : Nat), renK f c (renK g d l) = renK f c l
 | [], c, d => rfl
 | n :: r, c, d => by
  rw [renK]
  split
  ·rename_i h; rw [renK, renK, if_pos h, if_pos h, renK_twice f g r]
  ·rename_i h; rw [renK, renK, if_neg h, if_neg h, renK_twice f g r]
theorem renK_const (s : ByteArray) : ∀ (l : List PNode) (c : Nat), renK (fun _ => s) c l = l.map fun n => if n.kind = 2 then { n with s := s } else n
 | [], c => rfl
 | n :: r, c => by
  rw [renK, List.map_cons]
  split
  ·rw [renK_const s r]
  ·rw [renK_const s r]
theorem renX_as (q : Pat) : renX q = renF (fun _ => bs [120]) q := by unfold renX renF; rw [renK_const]
theorem renF_twice (f g : Nat → ByteArray) (q : Pat) : renF f (renF g q) = renF f q := by unfold renF; simp only; rw [renK_twice]
theorem renK_get (f : Nat → ByteArray) : ∀ (l : List PNode) (c i : Nat) (h : i < l.length), (renK f c l)[i]? = some (if l[i].kind = 2 then { l[i] with s := f (c + (varsOf (l.take i)).length) } else l[i])
 | n :: r, c, 0, h => by rw [renK]; split <;> simp_all [varsOf]
 | n :: r, c, i + 1, h => by
  have h' : i < r.length := by simpa using h
  rw [renK]
  split
  ·rename_i hk
   rw [List.getElem?_cons_succ, renK_get f r (c + 1) i h']
   have e : (varsOf ((n :: r).take (i + 1))).length = (varsOf (r.take i)).length + 1 := by simp [varsOf, hk]
   rw [e]
   simp [show c + 1 + (varsOf (r.take i)).length = c + ((varsOf (r.take i)).length + 1) by omega]
  ·rename_i hk
   rw [List.getElem?_cons_succ, renK_get f r c i h']
   have e : (varsOf ((n :: r).take (i + 1))).length = (varsOf (r.take i)).length := by simp [varsOf, hk]
   rw [e]
   simp
theorem varsOf_renK (f : Nat → ByteArray) : ∀ (l : List PNode) (c : Nat), varsOf (renK f c l) = (List.range' c (varsOf l).length).map f
 | [], c => rfl
 | n :: r, c => by
  rw [renK]
  split
  ·rename_i hk
   have e : varsOf (n :: r) = n.s :: varsOf r := by simp [varsOf, hk]
   have e2 : ∀ m : PNode, m.kind = 2 → ∀ l, varsOf (m :: l) = m.s :: varsOf l := fun m hm l => by simp [varsOf, hm]
   rw [e2 _ (by exact hk), varsOf_renK f r, e, List.length_cons, List.range'_succ, List.map_cons]
  ·rename_i hk
   have e2 : ∀ l, varsOf (n :: l) = varsOf l := fun l => by simp [varsOf, hk]
   rw [e2, varsOf_renK f r, e2]
theorem varsOf_renF (f : Nat → ByteArray) (q : Pat) : (varsOf (renF f q).nodes).length = (varsOf q.nodes).length := by
 unfold renF; simp only; rw [varsOf_renK]; simp
def underN (n : Node) (i d : Nat) : Nat :=
 if n.kind = 13 ∧ 0 < i then d + (varsOf (n.pats.getD (i - 1) ⟨[]⟩).nodes).length
 else if n.kind = 5 ∨ n.kind = 8 ∨ i = 1 ∧ (n.kind = 7 ∨ n.kind = 15) then d + 1
 else d
def nameD (n : Node) (d : Nat) : Node :=
 if n.kind = 3 then (if n.s = bs [] then { n with pos := 0, n := 0, s := dnN ((d : Int) - 1 - n.n), pats := n.pats.map (renF fun k => dnN ((d + k : Nat) : Int)) } else { n with pos := 0, pats := n.pats.map (renF fun k => dnN ((d + k : Nat) : Int)) })
 else { n with pos := 0, s := if bindsK n.kind = true then dnN (d : Int) else n.s, pats := n.pats.map (renF fun k => dnN ((d + k : Nat) : Int)) }
mutual
def namedR : Tr → Nat → Tr
 | .mk n ks, d => .mk (nameD n d) (namedRs n 0 ks d)
def namedRs (n : Node) : Nat → List Tr → Nat → List Tr
 | _, [], _ => []
 | i, t :: ts, d => namedR t (underN n i d) :: namedRs n (i + 1) ts d
end
def boundB (n : Node) (d : Nat) : Bool := if n.kind = 3 then (if n.s = bs [] then decide (0 ≤ n.n) && decide (n.n ≤ (d : Int) - 1) else decide (n.n = 0) && givenB n.s) else true
mutual
def namedB : Tr → Nat → Bool
 | .mk n ks, d => boundB n d && namedBs n 0 ks d
def namedBs (n : Node) : Nat → List Tr → Nat → Bool
 | _, [], _ => true
 | i, t :: ts, d => namedB t (underN n i d) && namedBs n (i + 1) ts d
end
theorem nameD_kind (n : Node) (d : Nat) : (nameD n d).kind = n.kind := by
 unfold nameD; repeat' split
 all_goals rfl
theorem nameD_pats (n : Node) (d : Nat) : (nameD n d).pats = n.pats.map (renF fun k => dnN ((d + k : Nat) : Int)) := by
 unfold nameD; repeat' split
 all_goals rfl
theorem nameD_kids (n : Node) (d : Nat) : (nameD n d).kids = n.kids := by
 unfold nameD; repeat' split
 all_goals rfl
theorem under_name (n : Node) (d i : Nat) (env : List ByteArray) (h : env.length = d) : (innerE (nameD n d) i env).length = underN n i d := by
 unfold innerE underN
 rw [nameD_kind, nameD_pats]
 split
 ·rw [List.length_append, h]
  congr 1
  by_cases hi : i - 1 < n.pats.length
  ·simp only [List.getD_eq_getElem?_getD, List.getElem?_map, List.getElem?_eq_getElem hi, Option.map_some, Option.getD_some]
   exact varsOf_renF _ _
  ·simp only [List.getD_eq_getElem?_getD, List.getElem?_map, List.getElem?_eq_none (Nat.le_of_not_lt hi), Option.map_none, Option.getD_none]
 ·split
  ·rw [List.length_append, h]; rfl
  ·exact h
theorem namedRs_size {n : Node} : ∀ {ks : List Tr}, (∀ k ∈ ks, ∀ d, (namedR k d).size = k.size) → ∀ i d, Tr.sizes (namedRs n i ks d) = Tr.sizes ks
 | [], _, i, d => by rw [namedRs]
 | t :: ts, h, i, d => by rw [namedRs, Tr.sizes, Tr.sizes, h t (by simp), namedRs_size (fun k hk => h k (by simp [hk]))]
theorem namedR_size : ∀ (t : Tr) (d : Nat), (namedR t d).size = t.size := Tr.ind fun n ks ih d => by
 rw [namedR, Tr.size, Tr.size, namedRs_size ih]
/-! ### trees with the kids that they have when they are laid -/
mutual
def fixT : Nat → Tr → Tr
 | b, .mk n ks => .mk { n with kids := kidT (b + 1) ks } (fixTs (b + 1) ks)
def fixTs : Nat → List Tr → List Tr
 | _, [] => []
 | b, t :: ts => fixT b t :: fixTs (b + t.size) ts
end
theorem fixTs_size : ∀ {ks : List Tr}, (∀ k ∈ ks, ∀ b, (fixT b k).size = k.size) → ∀ b, Tr.sizes (fixTs b ks) = Tr.sizes ks
 | [], _, b => by rw [fixTs]
 | t :: ts, h, b => by rw [fixTs, Tr.sizes, Tr.sizes, h t (by simp), fixTs_size (fun k hk => h k (by simp [hk]))]
theorem fixT_size : ∀ (t : Tr) (b : Nat), (fixT b t).size = t.size := Tr.ind fun n ks ih b => by
 rw [fixT, Tr.size, Tr.size, fixTs_size ih]
theorem kidT_fix : ∀ (ks : List Tr) (b c : Nat), kidT b (fixTs c ks) = kidT b ks
 | [], b, c => by rw [fixTs]
 | t :: ts, b, c => by rw [fixTs, kidT, kidT, fixT_size, kidT_fix ts]
theorem layTs_fix : ∀ {ks : List Tr}, (∀ k ∈ ks, ∀ b, layT b (fixT b k) = layT b k) → ∀ b, layTs b (fixTs b ks) = layTs b ks
 | [], _, b => by rw [fixTs]
 | t :: ts, h, b => by rw [fixTs, layTs, layTs, h t (by simp), fixT_size, layTs_fix (fun k hk => h k (by simp [hk]))]
theorem lay_fix : ∀ (t : Tr) (b : Nat), layT b (fixT b t) = layT b t := Tr.ind fun n ks ih b => by
 rw [fixT, layT, layT, kidT_fix, layTs_fix ih]
theorem coreN_kids (n : Node) (K : List Int) (env : List ByteArray) : coreN { n with kids := K } env = { coreN n env with kids := K } := by
 unfold coreN
 dsimp only
 split
 ·split <;> rfl
 ·rfl
theorem coreSs_fix {n : Node} {K : List Int} : ∀ {ks : List Tr}, (∀ k ∈ ks, ∀ b env, coreS (fixT b k) env = fixT b (coreS k env)) → ∀ b i env, coreSs { n with kids := K } i (fixTs b ks) env = fixTs b (coreSs n i ks env)
 | [], _, b, i, env => by rw [fixTs, coreSs, coreSs, fixTs]
 | t :: ts, h, b, i, env => by
  rw [fixTs, coreSs, coreSs, fixTs, h t (by simp), coreS_size, coreSs_fix (fun k hk => h k (by simp [hk]))]
  rfl
theorem kidT_coreSs (n : Node) (env : List ByteArray) : ∀ (ks : List Tr) (b i : Nat), kidT b (coreSs n i ks env) = kidT b ks
 | [], b, i => by rw [coreSs]
 | t :: ts, b, i => by rw [coreSs, kidT, kidT, coreS_size, kidT_coreSs n env ts]
theorem coreS_fix : ∀ (t : Tr) (b : Nat) (env : List ByteArray), coreS (fixT b t) env = fixT b (coreS t env) := Tr.ind fun n ks ih b env => by
 rw [fixT, coreS, coreS, fixT, coreN_kids, coreSs_fix ih, kidT_coreSs]
theorem coreBs_fix {n : Node} {K : List Int} : ∀ {ks : List Tr}, (∀ k ∈ ks, ∀ b env, coreB (fixT b k) env = coreB k env) → ∀ b i env, coreBs { n with kids := K } i (fixTs b ks) env = coreBs n i ks env
 | [], _, b, i, env => by rw [fixTs, coreBs, coreBs]
 | t :: ts, h, b, i, env => by
  rw [fixTs, coreBs, coreBs, h t (by simp), coreBs_fix (fun k hk => h k (by simp [hk]))]
  rfl
theorem coreB_fix : ∀ (t : Tr) (b : Nat) (env : List ByteArray), coreB (fixT b t) env = coreB t env := Tr.ind fun n ks ih b env => by
 rw [fixT, coreB, coreB, coreBs_fix ih]
 rfl
theorem fix_kids {l : List Node} {g : Nat} : ∀ {ks : List Tr} {b : Nat}, (∀ k ∈ ks, ∀ a, l.length - a ≤ g → (l.drop a).take k.size = layT a k → a + k.size ≤ l.length → growT l g a = fixT a k) → l.length - b ≤ g → (l.drop b).take (Tr.sizes ks) = layTs b ks → b + Tr.sizes ks ≤ l.length → (kidT b ks).map (fun k => growT l g k.toNat) = fixTs b ks
 | [], b, _, _, _, _ => by rw [kidT, fixTs]; rfl
 | t :: ts, b, h, hg, hl, hb => by
  rw [Tr.sizes] at hl hb
  rw [layTs] at hl
  have hlen : (layT b t).length = t.size := layT_len t b
  have h1 : (l.drop b).take t.size = layT b t := by
   have e := congrArg (List.take t.size) hl
   rw [List.take_take, Nat.min_eq_left (by omega), List.take_left' hlen] at e
   exact e
  have h2 : (l.drop (b + t.size)).take (Tr.sizes ts) = layTs (b + t.size) ts := by
   have e := congrArg (List.drop t.size) hl
   rw [List.drop_take, List.drop_drop, List.drop_left' hlen] at e
   rw [show t.size + Tr.sizes ts - t.size = Tr.sizes ts by omega] at e
   exact e
  rw [kidT, fixTs, List.map_cons, fix_kids (fun k hk => h k (by simp [hk])) (by omega) h2 (by omega)]
  congr 1
  exact h t (by simp) _ (by simpa using hg) h1 (by simp; omega)
theorem fix_grow (l : List Node) : ∀ (t : Tr) (g b : Nat), l.length - b ≤ g → (l.drop b).take t.size = layT b t → b + t.size ≤ l.length → growT l g b = fixT b t := Tr.ind fun n ks ih g b hg hl hb => by
 rw [Tr.size] at hl hb
 rw [layT] at hl
 have hlt : b < l.length := by omega
 rw [List.drop_eq_getElem_cons hlt, List.take_succ_cons] at hl
 obtain ⟨e1, e2⟩ := List.cons.inj hl
 obtain ⟨g, rfl⟩ : ∃ g', g = g' + 1 := ⟨g - 1, by omega⟩
 rw [growT, fixT]
 have e : l.getD b default = l[b] := by simp [List.getD_eq_getElem?_getD, hlt]
 have e3 : nkids l b = kidT (b + 1) ks := by rw [nkids, e, e1]
 rw [e3, e, e1, fix_kids (fun k hk a ha h1 h2 => ih k hk g a ha h1 h2) (by omega) e2 (by omega)]
theorem tree_lay (t : Tr) : treeAt (layT 0 t) 0 = fixT 0 t := by
 have h := layT_len t 0
 exact fix_grow _ t _ 0 (by omega) (by rw [List.drop_zero, List.take_of_length_le (by omega)]) (by omega)
theorem toCore_lay {ty : List TypeD} {t : Tr} (hx : Bulk.bulk (⟨ty, layT 0 t⟩ : Program) ≤ 4294967296) (hb : progB ⟨ty, layT 0 t⟩ = true) : toCoreO ⟨ty, layT 0 t⟩ = if coreB t [] = true then some ⟨ty, layT 0 (coreS t [])⟩ else none := by
 rw [toCore_as hx hb]
 simp only
 rw [tree_lay, coreB_fix, coreS_fix, lay_fix]
end Go.Proofs.YtjifpdcflankpaaGreat

namespace Go.Proofs.YtjifpdcflankpaaGreat
open Go.RowKit Go.Proofs.YtjifpdcflankpaaGreat.Av Go.Proofs.YtjifpdcflankpaaGreat.Ml
open Go.Proofs.YtjifpdcflankpaaGreat.Av.AVal (av)

theorem lastF_lt {s : ByteArray} {env : List ByteArray} : ∀ {m k : Nat}, lastF s env m = some k → m ≤ env.length → k < env.length
 | 0, k, h, _ => by cases h
 | m + 1, k, h, hm => by
  rw [lastF] at h
  split at h
  ·cases h; omega
  ·exact lastF_lt h (by omega)
theorem dnN_ne (i : Int) : dnN i ≠ bs [] := fun h => by
 have h1 := congrArg ByteArray.size h
 unfold dnN at h1
 rw [ByteArray.size_append] at h1
 have h2 : (bs [118]).size = 1 := rfl
 have h3 : (bs []).size = 0 := rfl
 omega
theorem node_back {n : Node} {d : Nat} {env : List ByteArray} {K : List Int} (hd : env.length = d) (h : { coreN (nameD n d) env with kids := K } = { n with kids := K }) (hk : knownB (nameD n d) env = true) (hz : n.kind = 3 → (nameD n d).n = 0) : boundB n d = true := by
 have hs := congrArg Node.s h
 have hn := congrArg Node.n h
 dsimp only at hs hn
 unfold boundB
 by_cases h3 : n.kind = 3
 ·rw [if_pos h3]
  have hk3 : (nameD n d).kind = 3 := (nameD_kind n d).trans h3
  unfold knownB at hk
  rw [if_pos hk3] at hk
  unfold coreN at hs hn
  rw [if_pos hk3] at hs hn
  by_cases he : n.s = bs []
  ·rw [if_pos he]
   have e1 : (nameD n d).s = dnN ((d : Int) - 1 - n.n) := by unfold nameD; rw [if_pos h3, if_pos he]
   cases hl : lastIx (nameD n d).s env with
   | some k =>
    rw [hl] at hn
    have := lastF_lt hl (Nat.le_refl _)
    simp only at hn
    simp only [Bool.and_eq_true, decide_eq_true_eq]
    omega
   | none =>
    rw [hl] at hs
    exact absurd (e1.symm.trans (hs.trans he)) (dnN_ne _)
  ·rw [if_neg he]
   have e1 : (nameD n d).s = n.s := by unfold nameD; rw [if_pos h3, if_neg he]
   have e2 : (nameD n d).n = n.n := by unfold nameD; rw [if_pos h3, if_neg he]
   cases hl : lastIx (nameD n d).s env with
   | some k =>
    rw [hl] at hs
    exact absurd hs.symm he
   | none =>
    rw [hl, e1] at hk
    have hz' := hz h3
    rw [e2] at hz'
    simp only [Option.isSome_none, Bool.false_or] at hk
    simp [hz', hk]
 ·rw [if_neg h3]
def nzN (n : Node) : Prop := n.kind = 3 → n.n = 0
theorem backs_named {n : Node} {d : Nat} {env : List ByteArray} (hd : env.length = d) : ∀ {ks : List Tr}, (∀ k ∈ ks, ∀ b d env, env.length = d → fixT b (coreS (namedR k d) env) = fixT b k → coreB (namedR k d) env = true → (namedR k d).all nzN → namedB k d = true) →
  ∀ b i, fixTs b (coreSs (nameD n d) i (namedRs n i ks d) env) = fixTs b ks → coreBs (nameD n d) i (namedRs n i ks d) env = true → Tr.alls nzN (namedRs n i ks d) → namedBs n i ks d = true
 | [], _, b, i, _, _, _ => by rw [namedBs]
 | t :: ts, ih, b, i, h1, h2, h3 => by
  rw [namedRs, coreSs, fixTs, fixTs] at h1
  rw [namedRs, coreBs, Bool.and_eq_true] at h2
  rw [namedRs, Tr.alls] at h3
  obtain ⟨e1, e2⟩ := List.cons.inj h1
  rw [coreS_size, namedR_size] at e2
  rw [namedBs, ih t (by simp) b _ _ (under_name n d i env hd) e1 h2.1 h3.1, backs_named hd (fun k hk => ih k (by simp [hk])) _ _ e2 h2.2 h3.2]
  rfl
theorem back_named : ∀ (t : Tr) (b d : Nat) (env : List ByteArray), env.length = d → fixT b (coreS (namedR t d) env) = fixT b t → coreB (namedR t d) env = true → (namedR t d).all nzN → namedB t d = true := Tr.ind fun n ks ih b d env hd h1 h2 h3 => by
 rw [namedR, coreS, fixT, fixT] at h1
 rw [namedR, coreB, Bool.and_eq_true] at h2
 rw [namedR, Tr.all] at h3
 injection h1 with e1 e2
 have hK : kidT (b + 1) (coreSs (nameD n d) 0 (namedRs n 0 ks d) env) = kidT (b + 1) ks := congrArg Node.kids e1
 rw [hK] at e1
 rw [namedB, node_back hd e1 h2.1 (fun h => h3.1 ((nameD_kind n d).trans h)), backs_named hd ih _ _ e2 h2.2 h3.2]
 rfl
theorem fixTs_all : ∀ {ks : List Tr}, (∀ k ∈ ks, ∀ b, (fixT b k).all nzN → k.all nzN) → ∀ b, Tr.alls nzN (fixTs b ks) → Tr.alls nzN ks
 | [], _, b, h => by rw [fixTs] at h; exact h
 | t :: ts, ih, b, h => by
  rw [fixTs, Tr.alls] at h
  rw [Tr.alls]
  exact ⟨ih t (by simp) _ h.1, fixTs_all (fun k hk => ih k (by simp [hk])) _ h.2⟩
theorem fixT_all : ∀ (t : Tr) (b : Nat), (fixT b t).all nzN → t.all nzN := Tr.ind fun n ks ih b h => by
 rw [fixT, Tr.all] at h
 rw [Tr.all]
 exact ⟨h.1, fixTs_all ih _ h.2⟩
/-! ### nodes one by one -/
theorem lays_core {n : Node} {env : List ByteArray} : ∀ {ks : List Tr}, (∀ k ∈ ks, ∀ (b : Nat) (env : List ByteArray) (i : Nat) (m : Node), (layT b k)[i]? = some m → ∃ e, (layT b (coreS k env))[i]? = some (coreN m e)) →
  ∀ (b j i : Nat) (m : Node), (layTs b ks)[i]? = some m → ∃ e, (layTs b (coreSs n j ks env))[i]? = some (coreN m e)
 | [], _, b, j, i, m, h => by rw [layTs] at h; cases h
 | t :: ts, ih, b, j, i, m, h => by
  rw [layTs] at h
  rw [coreSs, layTs]
  have l1 := layT_len t b
  have l2 := layT_len (coreS t (innerE n j env)) b
  rw [coreS_size] at l2 ⊢
  by_cases hi : i < t.size
  ·rw [List.getElem?_append_left (by omega)] at h
   obtain ⟨e, he⟩ := ih t (by simp) b (innerE n j env) i m h
   exact ⟨e, by rw [List.getElem?_append_left (by omega)]; exact he⟩
  ·rw [List.getElem?_append_right (by omega)] at h
   obtain ⟨e, he⟩ := lays_core (fun k hk => ih k (by simp [hk])) (b + t.size) (j + 1) _ m h
   rw [l1] at he
   exact ⟨e, by rw [List.getElem?_append_right (by omega), l2]; exact he⟩
theorem lay_core : ∀ (t : Tr) (b : Nat) (env : List ByteArray) (i : Nat) (m : Node), (layT b t)[i]? = some m → ∃ e, (layT b (coreS t env))[i]? = some (coreN m e) := Tr.ind fun n ks ih b env i m h => by
 rw [layT] at h
 rw [coreS, layT]
 cases i with
 | zero =>
  simp only [List.getElem?_cons_zero, Option.some.injEq] at h ⊢
  subst h
  refine ⟨env, ?_⟩
  have h2 := coreN_kids n (kidT (b + 1) ks) env
  rw [kidT_coreSs]
  exact h2.symm
 | succ i =>
  rw [List.getElem?_cons_succ] at h ⊢
  exact lays_core ih _ _ _ _ h
theorem map_kind {l l' : List Node} (hl : l.length = l'.length) (h : ∀ (i : Nat) (m : Node), l'[i]? = some m → ∃ e, l[i]? = some (coreN m e)) : l.map Node.kind = l'.map Node.kind := by
 apply List.ext_getElem?
 intro i
 rw [List.getElem?_map, List.getElem?_map]
 cases hi : l'[i]? with
 | none =>
  have : l[i]? = none := List.getElem?_eq_none (by have := List.getElem?_eq_none_iff.1 hi; omega)
  rw [this]
 | some m =>
  obtain ⟨e, he⟩ := h i m hi
  rw [he]
  simp [(coreN_kind m e).1]
theorem kind_get {l l' : List Node} (h : l.map Node.kind = l'.map Node.kind) (i : Nat) : (l.getD i default).kind = (l'.getD i default).kind := by
 have e := congrArg (fun x : List Int => x.getD i (default : Node).kind) h
 simp only [List.getD_eq_getElem?_getD, List.getElem?_map] at e ⊢
 cases h1 : l[i]? <;> cases h2 : l'[i]? <;> rw [h1, h2] at e <;> simpa using e
def nameC (n : Node) : Bool := if n.kind = 3 then decide (n.s = bs []) || decide (n.n = 0) else decide (n.s = bs [120])
theorem onlyKind_as {l l' : List Node} (h : l.map Node.kind = l'.map Node.kind) (ks : List Int) (d : Int) : onlyKind Node.kind l ks d = onlyKind Node.kind l' ks d := by
 have hl : l.length = l'.length := by simpa using congrArg List.length h
 unfold onlyKind
 split
 ·rw [hl, kind_get h]
 ·rfl
theorem firstKind_as {l l' : List Node} (h : l.map Node.kind = l'.map Node.kind) (ks : List Int) (d : Int) : firstKind l ks d = firstKind l' ks d := by
 have hl : l.length = l'.length := by simpa using congrArg List.length h
 unfold firstKind
 split
 ·rw [hl, kind_get h]
 ·rfl
theorem coreN_s {n : Node} {e : List ByteArray} (h3 : n.kind ≠ 3) : (coreN n e).s = (if bindsK n.kind = true then bs [120] else n.s) ∧ (coreN n e).n = n.n := by
 unfold coreN; rw [if_neg h3]; exact ⟨rfl, rfl⟩
theorem nodeC_of {l l' : List Node} {n : Node} {e : List ByteArray} (hk : l.map Node.kind = l'.map Node.kind) (h : nodeB nameN l' n = true) : nodeB nameC l (coreN n e) = true := by
 obtain ⟨k1, k2, k3, k4⟩ := coreN_kind n e
 unfold nodeB at h ⊢
 rw [k1, k2, k3, k4, onlyKind_as hk, firstKind_as hk]
 split at h
 ·cases h
 rename_i h0
 have hp : n.pats.map renX = [] ↔ n.pats = [] := by simp
 by_cases h3 : n.kind = 3
 ·simp only [h3] at h h0 ⊢
  simp at h h0 ⊢
  have hn : n.n = 0 := by unfold nameN at h; simp at h; exact h.2
  have hc : nameC (coreN n e) = true := by
   unfold nameC
   rw [k1, if_pos h3]
   unfold coreN
   rw [if_pos h3]
   cases lastIx n.s e <;> simp [hn]
  have ha : arityK 3 = 0 := rfl
  rw [ha] at h0 ⊢
  have h4 : n.kids = [] := by simpa using h0.2.1
  refine ⟨⟨.inr (by rw [h4]; rfl), h0.2.2⟩, hc⟩
 ·obtain ⟨s1, s2⟩ := coreN_s (e := e) h3
  have h1 : ¬ ((0 : Int) < 0 ∨ (0 ≤ arityK n.kind ∧ (n.kids.length : Int) ≠ arityK n.kind) ∨ (n.kind ≠ 13 ∧ n.pats.map renX ≠ []) ∨ (n.kind ≠ 1 ∧ n.kind ≠ 3 ∧ n.n ≠ 0)) := fun hc => h0 (by
   rcases hc with hc | hc | hc | hc
   ·omega
   ·exact .inr (.inl hc)
   ·exact .inr (.inr (.inl ⟨hc.1, fun e => hc.2 (hp.2 e)⟩))
   ·exact .inr (.inr (.inr hc)))
  rw [s2, if_neg h1, List.length_map]
  cases hb : bindsK n.kind with
  | false =>
   rw [s1, hb]
   unfold bindsK at hb
   simp only [Bool.or_eq_false_iff, decide_eq_false_iff_not] at hb
   have h5 : ¬ (n.kind = 3 ∨ n.kind = 5 ∨ n.kind = 7 ∨ n.kind = 15) := by omega
   have h8 : ¬ n.kind = 8 := hb.1.2
   rw [if_neg h5, if_neg h8] at h ⊢
   simpa using h
  | true =>
   have hc : nameC (coreN n e) = true := by
    unfold nameC
    rw [k1, if_neg h3, s1, hb]
    simp
   rw [hc]
   unfold bindsK at hb
   simp only [Bool.or_eq_true, decide_eq_true_eq] at hb
   rcases hb with ((hb | hb) | hb) | hb
   all_goals
    rw [hb] at h ⊢
    simp at h ⊢
   exact h.2
end Go.Proofs.YtjifpdcflankpaaGreat

namespace Go.Proofs.YtjifpdcflankpaaGreat
open Go.RowKit Go.Proofs.YtjifpdcflankpaaGreat.Av Go.Proofs.YtjifpdcflankpaaGreat.Ml
open Go.Proofs.YtjifpdcflankpaaGreat.Av.AVal (av)

def valD (l : List UInt8) : Nat := l.foldl (fun a b => 10 * a + (b.toNat - 48)) 0
theorem valD_dig : ∀ k, valD (dig k) = k := by
 intro k
 induction k using Nat.strongRecOn with
 | _ k ih =>
  by_cases h : k < 10
  ·rw [dig_small h]
   simp only [valD, List.foldl_cons, List.foldl_nil, UInt8.toNat_ofNat']
   omega
  ·rw [dig_great h, valD, List.foldl_append]
   have := ih (k / 10) (by omega)
   rw [valD] at this
   rw [this]
   simp only [List.foldl_cons, List.foldl_nil, UInt8.toNat_ofNat']
   omega
theorem dnN_nat {k : Nat} (hk : k ≤ 4611686018427387903) : dnN (k : Int) = bs [118] ++ digS k := by
 unfold dnN numS
 rw [if_pos (by omega), if_neg (by omega), Int.toNat_natCast]
theorem dnN_inj {a b : Nat} (ha : a ≤ 4611686018427387903) (hb : b ≤ 4611686018427387903) (h : dnN (a : Int) = dnN (b : Int)) : a = b := by
 rw [dnN_nat ha, dnN_nat hb] at h
 have h1 := congrArg (fun x : ByteArray => x.data.toList) h
 simp only [digS, ByteArray.data_append, Array.toList_append, List.append_cancel_left_eq] at h1
 have := congrArg valD h1
 rwa [valD_dig, valD_dig] at this
def tabD (k : Nat) : List UInt8 := if k < 10 then [UInt8.ofNat (48 + k)] else if k < 100 then [UInt8.ofNat (48 + k / 10), UInt8.ofNat (48 + k % 10)] else [UInt8.ofNat (48 + k / 100), UInt8.ofNat (48 + k / 10 % 10), UInt8.ofNat (48 + k % 10)]
theorem tabD_dig {k : Nat} (h : k < 1000) : dig k = tabD k := by
 unfold tabD
 by_cases h1 : k < 10
 ·rw [if_pos h1, dig_small h1]
 ·rw [if_neg h1, dig_great h1]
  by_cases h2 : k < 100
  ·rw [if_pos h2, dig_small (by omega)]; rfl
  ·rw [if_neg h2, dig_great (by omega), dig_small (by omega), Nat.div_div_eq_div_mul]; rfl
theorem tabD_name : ∀ k : Nat, k < 600 → nameB ⟨(118 :: tabD k).toArray⟩ = true := by decide +kernel
theorem dnN_name {k : Nat} (h : k < 600) : nameB (dnN (k : Int)) = true := by
 rw [dnN_nat (by omega)]
 have e : bs [118] ++ digS k = ⟨(118 :: tabD k).toArray⟩ := by
  unfold digS
  rw [tabD_dig (by omega)]
  apply ByteArray.ext
  apply Array.ext'
  simp [bs, ByteArray.data_append]
 rw [e]
 exact tabD_name k h
theorem pkind_get (f : Nat → ByteArray) (l : List PNode) (c i : Nat) : ((renK f c l).getD i default).kind = (l.getD i default).kind ∧ ((renK f c l).getD i default).kids = (l.getD i default).kids ∧ ((renK f c l).getD i default).n = (l.getD i default).n := by
 by_cases h : i < l.length
 ·simp only [List.getD_eq_getElem?_getD, renK_get f l c i h, List.getElem?_eq_getElem h, Option.getD_some]
  split <;> exact ⟨rfl, rfl, rfl⟩
 ·simp only [List.getD_eq_getElem?_getD]
  rw [List.getElem?_eq_none (by rw [renK_len]; omega), List.getElem?_eq_none (by omega)]
  exact ⟨rfl, rfl, rfl⟩
theorem renK_take (f : Nat → ByteArray) : ∀ (l : List PNode) (c i : Nat), (renK f c l).take i = renK f c (l.take i)
 | [], c, i => by simp [renK]
 | n :: r, c, 0 => by simp [renK]
 | n :: r, c, i + 1 => by
  rw [renK, List.take_succ_cons, renK]
  split <;> rw [List.take_succ_cons, renK_take f r]
theorem vars_take_le (l : List PNode) (i : Nat) : (varsOf (l.take i)).length ≤ i := by
 unfold varsOf
 have h1 := List.length_filterMap_le (fun n : PNode => if n.kind = 2 then some n.s else none) (l.take i)
 rw [List.length_take] at h1
 omega
theorem ponly_ren (f : Nat → ByteArray) (l : List PNode) (c : Nat) (ks : List Int) (d : Int) : onlyKind PNode.kind (renK f c l) ks d = onlyKind PNode.kind l ks d := by
 unfold onlyKind
 split
 ·rw [renK_len, (pkind_get f l c _).1]
 ·rfl
theorem pat_ren {g : Nat → ByteArray} (h1 : ∀ k, k < 600 → nameB (g k) = true) (h2 : ∀ a b, a < 600 → b < 600 → g a = g b → a = b) {l : List PNode} (h : patB l = true) : patB (renK g 0 l) = true := by
 simp only [patB, Bool.and_eq_true, decide_eq_true_eq, allI_iff] at h ⊢
 obtain ⟨⟨⟨a1, a2⟩, a3⟩, a4⟩ := h
 rw [renK_len]
 have e : pkids (renK g 0 l) = pkids l := funext fun i => (pkind_get g l 0 i).2.1
 refine ⟨⟨⟨a1, a2⟩, by rw [e]; exact a3⟩, fun i hi => ?_⟩
 have h4 := a4 i hi
 have hd : (renK g 0 l).getD i default = if l[i].kind = 2 then { l[i] with s := g (0 + (varsOf (l.take i)).length) } else l[i] := by
  rw [List.getD_eq_getElem?_getD, renK_get g l 0 i hi]; rfl
 have hd2 : l.getD i default = l[i] := by rw [List.getD_eq_getElem?_getD, List.getElem?_eq_getElem hi]; rfl
 have hv := vars_take_le l i
 unfold patIB at h4 ⊢
 rw [hd2] at h4
 rw [hd]
 by_cases hk : l[i].kind = 2
 ·rw [if_pos hk]
  rw [Bool.and_eq_true] at h4 ⊢
  constructor
  ·have h5 := h4.1
   unfold pnodeB at h5 ⊢
   simp only [hk] at h5 ⊢
   simp at h5 ⊢
   exact ⟨h5.1, h1 _ (by omega)⟩
  ·simp only [hk, decide_true, Bool.true_and]
   rw [renK_take, varsOf_renK, Bool.not_eq_true', List.any_eq_false]
   intro x hx
   obtain ⟨j, hj, rfl⟩ := List.mem_map.1 hx
   have := List.mem_range'_1.1 hj
   simp only [decide_eq_true_eq]
   intro he
   have := h2 _ _ (by omega) (by omega) he
   omega
 ·rw [if_neg hk]
  rw [Bool.and_eq_true] at h4 ⊢
  constructor
  ·have h5 := h4.1
   unfold pnodeB at h5 ⊢
   rw [ponly_ren]
   exact h5
  ·simp [hk]
end Go.Proofs.YtjifpdcflankpaaGreat

namespace Go.Proofs.YtjifpdcflankpaaGreat
open Go.RowKit Go.Proofs.YtjifpdcflankpaaGreat.Av Go.Proofs.YtjifpdcflankpaaGreat.Ml
open Go.Proofs.YtjifpdcflankpaaGreat.Av.AVal (av)

def lenQ (n : Node) : Prop := ∀ q ∈ n.pats, q.nodes.length ≤ 600
theorem vars_len (l : List PNode) : (varsOf l).length ≤ l.length := by
 unfold varsOf
 exact List.length_filterMap_le _ l
theorem under_le {n : Node} (h : lenQ n) (i d : Nat) : underN n i d ≤ d + 600 := by
 unfold underN
 split
 ·by_cases hi : i - 1 < n.pats.length
  ·have e : n.pats.getD (i - 1) ⟨[]⟩ = n.pats[i - 1] := by simp [hi]
   rw [e]
   have h1 := h _ (List.getElem_mem hi)
   have h2 := vars_len n.pats[i - 1].nodes
   omega
  ·have e : n.pats.getD (i - 1) ⟨[]⟩ = ⟨[]⟩ := by rw [List.getD_eq_getElem?_getD, List.getElem?_eq_none (by omega)]; rfl
   rw [e]; simp [varsOf]
 ·split <;> omega
def smallN (D : Nat) (m : Node) : Prop := m.kind = 3 → (m.s = bs [] → 0 ≤ m.n ∧ m.n ≤ (D : Int)) ∧ (m.s ≠ bs [] → m.n = 0)
theorem small_le {D E : Nat} {m : Node} (h : smallN D m) (hd : D ≤ E) : smallN E m := fun h3 => ⟨fun hs => by have := (h h3).1 hs; omega, (h h3).2⟩
theorem nameds_small {n : Node} {d E : Nat} (hq : lenQ n) : ∀ {ks : List Tr}, (∀ k ∈ ks, ∀ d, namedB k d = true → k.all lenQ → ∀ b, ∀ m ∈ layT b k, smallN (d + 600 * (k.size - 1)) m) →
  ∀ i b, namedBs n i ks d = true → Tr.alls lenQ ks → d + 600 * Tr.sizes ks ≤ E → ∀ m ∈ layTs b ks, smallN E m
 | [], _, i, b, _, _, _, m, hm => by rw [layTs] at hm; cases hm
 | t :: ts, ih, i, b, h1, h2, h3, m, hm => by
  rw [namedBs, Bool.and_eq_true] at h1
  rw [Tr.alls] at h2
  rw [Tr.sizes] at h3
  rw [layTs] at hm
  have hp := size_pos t
  rcases List.mem_append.1 hm with hm | hm
  ·have h4 := ih t (by simp) _ h1.1 h2.1 b m hm
   have h5 := under_le hq i d
   refine small_le h4 ?_
   have : 600 * (t.size - 1) + 600 = 600 * t.size := by omega
   omega
  ·exact nameds_small hq (fun k hk => ih k (by simp [hk])) (i + 1) _ h1.2 h2.2 (by omega) m hm
theorem named_small : ∀ (t : Tr) (d : Nat), namedB t d = true → t.all lenQ → ∀ b, ∀ m ∈ layT b t, smallN (d + 600 * (t.size - 1)) m := Tr.ind fun n ks ih d h1 h2 b m hm => by
 rw [namedB, Bool.and_eq_true] at h1
 rw [Tr.all] at h2
 rw [layT] at hm
 rw [Tr.size]
 rcases List.mem_cons.1 hm with rfl | hm
 ·have hb := h1.1
  intro h3
  simp only at h3 ⊢
  unfold boundB at hb
  rw [if_pos h3] at hb
  constructor
  ·intro hs
   rw [if_pos hs] at hb
   simp only [Bool.and_eq_true, decide_eq_true_eq] at hb
   omega
  ·intro hs
   rw [if_neg hs] at hb
   simp only [Bool.and_eq_true, decide_eq_true_eq] at hb
   exact hb.1
 ·exact nameds_small h2.1 ih 0 _ h1.2 h2.2 (by omega) m hm
def backP (c : Program) : Program := ⟨c.types, layT 0 (namedR (treeAt c.nodes 0) 0)⟩
def nodeS (n : Node) : Bool := !(decide (n.kind = 13) && !decide ((n.pats.length : Int) = n.kids.length - 1)) && decide (0 ≤ n.n) && !(decide (n.kind = 3) && decide (n.s = bs []) && decide (360000 < n.n)) && (n.pats.all fun q => decide (q.nodes.length ≤ 600)) && n.kids.all fun k => decide (0 ≤ k)
def shapeS (c : Program) : Bool := (decide (1 ≤ c.nodes.length) && decide (c.nodes.length ≤ 600)) && c.nodes.all nodeS && treeB (nkids c.nodes) c.nodes.length
def specK (c : Program) : Bool := shapeS c && toCoreB (backP c) && decide ((toCoreR (backP c)).nodes = c.nodes)
def patI (q : Pat) : Bool := (decide (1 ≤ q.nodes.length) && decide (q.nodes.length ≤ 600)) && patB (renF (fun k => dnN (k : Int)) q).nodes
def zpN (n : Node) : Node := { n with pos := 0 }
def implK (c : Program) : Bool := shapeP nameC c && c.nodes.all (fun n => decide (n.pos = 0)) && (c.nodes.all fun n => n.pats.all patI) && namedB (treeAt c.nodes 0) 0 && toCoreB (backP c) && decide ((toCoreR (backP c)).nodes.map zpN = c.nodes.map zpN)
theorem toCoreB_prog {p : Program} (h : toCoreB p = true) : progB p = true := by
 cases hb : progB p with
 | true => rfl
 | false => rw [toCoreB, toCoreO, if_neg (by rw [hb]; simp)] at h; cases h
theorem back_core {c : Program} (hx : Bulk.bulk (backP c) ≤ 4294967296) (h : toCoreB (backP c) = true) : progB (backP c) = true ∧ coreB (namedR (treeAt c.nodes 0) 0) [] = true ∧ (toCoreR (backP c)).nodes = layT 0 (coreS (namedR (treeAt c.nodes 0) 0) []) := by
 have hp := toCoreB_prog h
 have e := toCore_lay hx hp
 unfold toCoreB at h
 unfold toCoreR
 unfold backP at *
 rw [e] at h ⊢
 cases hc : coreB (namedR (treeAt c.nodes 0) 0) [] with
 | false => rw [hc] at h; cases h
 | true => exact ⟨hp, rfl, rfl⟩
theorem core_pos {l : List Node} {t : Tr} {env : List ByteArray} (h : layT 0 (coreS t env) = l) : ∀ m ∈ l, ∃ n e, n ∈ layT 0 t ∧ m = coreN n e := by
 intro m hm
 obtain ⟨i, hi, rfl⟩ := List.getElem_of_mem hm
 have h1 := layT_len t 0
 have h2 := layT_len (coreS t env) 0
 rw [coreS_size, h] at h2
 have h3 : i < (layT 0 t).length := by omega
 obtain ⟨e, he⟩ := lay_core t 0 env i _ (List.getElem?_eq_getElem h3)
 rw [h, List.getElem?_eq_getElem hi] at he
 exact ⟨_, e, List.getElem_mem h3, Option.some.inj he⟩
theorem map_zp {l : List Node} (h : ∀ n ∈ l, n.pos = 0) : l.map zpN = l := by
 refine (List.map_congr_left (g := id) fun n hn => ?_).trans (List.map_id l)
 have := h n hn
 obtain ⟨a, b, c, d, e, f⟩ := n
 simp only at this
 subst this
 rfl
theorem agreeK {c : Program} (hx : Bulk.bulk (backP c) ≤ 4294967296) : implK c = specK c := by
 rw [Bool.eq_iff_iff]
 unfold implK specK
 simp only [Bool.and_eq_true, decide_eq_true_eq]
 constructor
 ·rintro ⟨⟨⟨⟨⟨h1, h2⟩, h3⟩, h4⟩, h5⟩, h6⟩
  obtain ⟨q1, q2, q3⟩ := back_core hx h5
  simp only [shapeP, Bool.and_eq_true, decide_eq_true_eq, List.all_eq_true] at h1
  obtain ⟨⟨⟨⟨⟨a1, a2⟩, a3⟩, a4⟩, a5⟩, a6⟩ := h1
  simp only [List.all_eq_true, decide_eq_true_eq] at h2 h3
  have hk : ∀ i, i < c.nodes.length → ∀ k ∈ nkids c.nodes i, (i : Int) < k ∧ k < c.nodes.length := fun i hi k hk => tree_in a4 hi hk
  have hq : ∀ n ∈ c.nodes, lenQ n := fun n hn q hq => by
   have := h3 n hn q hq
   simp only [patI, Bool.and_eq_true, decide_eq_true_eq] at this
   exact this.1.2
  have hall := treeAt_all hk hq c.nodes.length 0 (by omega) (by omega)
  have hsm := named_small _ 0 h4 hall 0
  have hsz := treeAt_size a4 (i := 0) (by omega)
  rw [lay_grow a4] at hsm
  refine ⟨⟨?_, h5⟩, ?_⟩
  ·simp only [shapeS, Bool.and_eq_true, decide_eq_true_eq, List.all_eq_true]
   refine ⟨⟨⟨by omega, by omega⟩, fun n hn => ?_⟩, a4⟩
   have b1 := a5 n hn
   have b2 := small_le (hsm n hn) (E := 360000) (by omega)
   have b3 : 0 ≤ n.n ∧ (n.kind = 13 → (n.pats.length : Int) = n.kids.length - 1) := by
    unfold nodeB at b1
    split at b1
    ·cases b1
    rename_i h0
    constructor
    ·by_cases k1 : n.kind = 1
     ·rw [if_pos k1] at b1
      simp only [Bool.and_eq_true, decide_eq_true_eq] at b1
      exact b1.1.1
     ·by_cases k3 : n.kind = 3
      ·by_cases hs : n.s = bs []
       ·exact ((b2 k3).1 hs).1
       ·have := (b2 k3).2 hs; omega
      ·have : n.n = 0 := by
        rcases Int.lt_trichotomy n.n 0 with h | h | h
        ·exact absurd (.inr (.inr (.inr ⟨k1, k3, by omega⟩))) h0
        ·exact h
        ·exact absurd (.inr (.inr (.inr ⟨k1, k3, by omega⟩))) h0
       omega
    ·intro k13
     simp [k13] at b1
     omega
   simp only [nodeS, Bool.and_eq_true, Bool.not_eq_true', Bool.and_eq_false_iff, Bool.not_eq_false', decide_eq_true_eq, decide_eq_false_iff_not, List.all_eq_true]
   refine ⟨⟨⟨⟨?_, b3.1⟩, ?_⟩, fun q hq' => hq n hn q hq'⟩, fun k hk' => ?_⟩
   ·by_cases k13 : n.kind = 13
    ·exact .inr (b3.2 k13)
    ·exact .inl k13
   ·by_cases k3 : n.kind = 3
    ·by_cases hs : n.s = bs []
     ·right; have := (b2 k3).1 hs; omega
     ·exact .inl (.inr hs)
    ·exact .inl (.inl k3)
   ·obtain ⟨i, hi, rfl⟩ := List.getElem_of_mem hn
    have := hk i hi k (by rw [nkids, List.getD_eq_getElem?_getD, List.getElem?_eq_getElem hi]; exact hk')
    omega
  ·rw [map_zp h2, map_zp] at h6
   ·exact h6
   ·rw [q3]
    intro m hm
    obtain ⟨n, e, _, rfl⟩ := core_pos rfl m hm
    exact (coreN_kind n e).2.1
 ·rintro ⟨⟨h1, h5⟩, h6⟩
  obtain ⟨q1, q2, q3⟩ := back_core hx h5
  simp only [shapeS, Bool.and_eq_true, decide_eq_true_eq, List.all_eq_true] at h1
  obtain ⟨⟨⟨a1, a2⟩, a5⟩, a4⟩ := h1
  have hl : layT 0 (coreS (namedR (treeAt c.nodes 0) 0) []) = c.nodes := q3.symm.trans h6
  have hcp := core_pos hl
  have hT : fixT 0 (treeAt c.nodes 0) = treeAt c.nodes 0 := by rw [← tree_lay, lay_grow a4]
  have hF : fixT 0 (coreS (namedR (treeAt c.nodes 0) 0) []) = fixT 0 (treeAt c.nodes 0) := by rw [hT, ← tree_lay, hl]
  have hq1 := q1
  simp only [progB, shapeP, Bool.and_eq_true, decide_eq_true_eq, List.all_eq_true] at hq1
  obtain ⟨⟨⟨⟨⟨⟨p1, p2⟩, p3⟩, p4⟩, p5⟩, p6⟩, p7⟩ := hq1
  have hnz : (namedR (treeAt c.nodes 0) 0).all nzN := by
   refine fixT_all _ 0 ?_
   rw [← tree_lay]
   refine treeAt_all (fun i hi k hk => tree_in p4 hi hk) (fun n hn => ?_) (backP c).nodes.length 0 (by omega) (Nat.le_refl _)
   intro k3
   have := p5 n hn
   unfold nodeB at this
   split at this
   ·cases this
   ·simp [k3, nameN] at this
    exact this.2
  have hnb := back_named _ 0 0 [] rfl hF q2 hnz
  have hkd : c.nodes.map Node.kind = (backP c).nodes.map Node.kind := by
   refine map_kind ?_ fun i m hm => ?_
   ·rw [← hl, layT_len, coreS_size]; unfold backP; rw [layT_len]
   ·obtain ⟨e, he⟩ := lay_core _ 0 [] i m hm
    exact ⟨e, by rw [← hl]; exact he⟩
  have hpos : ∀ n ∈ c.nodes, n.pos = 0 := fun m hm => by
   obtain ⟨n, e, _, rfl⟩ := hcp m hm
   exact (coreN_kind n e).2.1
  refine ⟨⟨⟨⟨⟨?_, ?_⟩, ?_⟩, hnb⟩, h5⟩, by rw [h6]⟩
  ·simp only [shapeP, Bool.and_eq_true, decide_eq_true_eq, List.all_eq_true]
   refine ⟨⟨⟨⟨⟨by omega, by omega⟩, p3⟩, a4⟩, fun m hm => ?_⟩, p6⟩
   obtain ⟨n, e, hn, rfl⟩ := hcp m hm
   exact nodeC_of hkd (p5 n hn)
  ·simp only [List.all_eq_true, decide_eq_true_eq]
   exact hpos
  ·simp only [List.all_eq_true]
   intro m hm q hq
   obtain ⟨n, e, hn, rfl⟩ := hcp m hm
   rw [(coreN_kind n e).2.2.2] at hq
   obtain ⟨q0, hq0, rfl⟩ := List.mem_map.1 hq
   have h7 := p7 n hn q0 hq0
   have h8 := pat_ren (g := fun k => dnN (k : Int)) (fun k hk => dnN_name hk) (fun a b ha hb he => dnN_inj (by omega) (by omega) he) h7
   have h9 : 1 ≤ (q0.nodes.length : Int) ∧ (q0.nodes.length : Int) ≤ 600 := by
    simp only [patB, Bool.and_eq_true, decide_eq_true_eq] at h7
    exact h7.1.1
   unfold patI
   rw [renX_as, renF_twice]
   have e1 : (renF (fun _ => bs [120]) q0).nodes.length = q0.nodes.length := renK_len _ _ _
   rw [e1]
   simp only [Bool.and_eq_true, decide_eq_true_eq]
   exact ⟨⟨by omega, by omega⟩, h8⟩
end Go.Proofs.YtjifpdcflankpaaGreat

namespace Go.Proofs.YtjifpdcflankpaaGreat
open Go.RowKit Go.Proofs.YtjifpdcflankpaaGreat.Av Go.Proofs.YtjifpdcflankpaaGreat.Ml
open Go.Proofs.YtjifpdcflankpaaGreat.Av.AVal (av)

theorem depthName_ok (k : Nat) (hk : k ≤ 4611686018427387903) : CallsF Tryz.prog 87 [.int .i64 (k : Int)] (.str (dnN (k : Int))) := by
 rw [dnN_nat hk]
 refine ir_impl_depthName.F rfl (by simp; exact pint _) (AvPure.str _) ?_
 have hs := digS_le k (by omega)
 simp +contextual -dsimp (maxSteps := 2000000) only [↓SD, SU, SB, simprocAttr, ir_impl_depthName]
 refine aCallK_of _ (digits_ok k (by omega)) ?_
 simp +contextual -dsimp (maxSteps := 2000000) only [↓SD, SU, SB, simprocAttr]
 have h1 : (bs [118]).size = 1 := rfl
 unfold maxLen; omega
theorem named1_ok (k d : Nat) (hk : k + d ≤ 4611686018427387903) : CallsF Tryz.prog 144 [.int .i64 (k : Int), .obj [.int .i64 (d : Int)]] (.str (dnN ((d + k : Nat) : Int))) := by
 refine ir_impl_named_1.F rfl (by
  intro x hx
  rcases List.mem_cons.1 hx with rfl | hx
  ·exact pint _
  ·rw [List.mem_singleton.1 hx]; exact AvPure.obj (by simp; exact pint _)) (AvPure.str _) ?_
 have C := depthName_ok (d + k) (by omega)
 have e : (d : Int) + (k : Int) = ((d + k : Nat) : Int) := by omega
 simp +contextual -dsimp (maxSteps := 2000000) only [↓SD, SU, SB, simprocAttr, ir_impl_named_1, e]
 refine ⟨by omega, ?_⟩
 refine aCallK_of _ C ?_
 simp +contextual -dsimp (maxSteps := 2000000) only [↓SD, SU, SB, simprocAttr]
def renG (f : Nat → ByteArray) (l : List PNode) (j : Nat) : List PNode := (renK f 0 l).take j ++ l.drop j
theorem renG_len (f : Nat → ByteArray) (l : List PNode) (j : Nat) (h : j ≤ l.length) : (renG f l j).length = l.length := by unfold renG; rw [List.length_append, List.length_take, renK_len, List.length_drop]; omega
theorem renG_get (f : Nat → ByteArray) (l : List PNode) (j : Nat) (h : j < l.length) : (renG f l j)[j]? = some l[j] := by
 unfold renG
 have : ((renK f 0 l).take j).length = j := by rw [List.length_take, renK_len]; omega
 rw [List.getElem?_append_right (by omega), this, Nat.sub_self, List.getElem?_drop, Nat.add_zero, List.getElem?_eq_getElem h]
def newP (f : Nat → ByteArray) (l : List PNode) (j : Nat) (a : PNode) : PNode := if a.kind = 2 then { a with s := f (varsOf (l.take j)).length } else a
theorem renG_set (f : Nat → ByteArray) (l : List PNode) (j : Nat) (h : j < l.length) : (renG f l j).set j (newP f l j l[j]) = renG f l (j + 1) := by
 have hk : j < (renK f 0 l).length := by rw [renK_len]; exact h
 have he : (renK f 0 l)[j] = newP f l j l[j] := by
  have h1 := renK_get f l 0 j h
  rw [List.getElem?_eq_getElem hk] at h1
  have h2 := Option.some.inj h1
  rw [h2, newP, Nat.zero_add]
 unfold renG
 rw [List.take_succ_eq_append_getElem hk, he, List.drop_eq_getElem_cons h]
 have : ((renK f 0 l).take j).length = j := by rw [List.length_take, renK_len]; omega
 rw [List.set_append_right _ _ (by omega), this, Nat.sub_self, List.set_cons_zero]
 simp only [List.append_assoc, List.cons_append, List.nil_append]
theorem varsL_step (l : List PNode) (j : Nat) (h : j < l.length) : (varsOf (l.take (j + 1))).length = (varsOf (l.take j)).length + if l[j].kind = 2 then 1 else 0 := by
 rw [List.take_succ_eq_append_getElem h]
 unfold varsOf
 rw [List.filterMap_append, List.length_append]
 congr 1
 split
 ·rename_i hk; simp [hk]
 ·rename_i hk; simp [hk]
theorem renamePatG_ok (f : Nat → ByteArray) (g : FuncId) (caps : List AV) (hpc : ∀ x ∈ caps, AvPure x) (hcp : ∀ hp, caps.map (AV.pur1 hp) = caps) (q : Pat) (hg : ∀ c : Nat, c ≤ q.nodes.length → CallsF Tryz.prog g (.int .i64 (c : Int) :: caps) (.str (f c))) (hq : q.nodes ≠ []) (hx : Bulk.bulk q ≤ 4294967296) :
  CallsF Tryz.prog 67 [av q, .fn g caps] (av (renF f q)) := by
 obtain ⟨l⟩ := q
 have hl := bulk_length l
 have hb : Bulk.bulk l + 1 ≤ 4294967296 := hx
 simp only at hg hq
 refine ir_impl_renamePat.F rfl (fun x hx => by
  rcases List.mem_cons.1 hx with rfl | hx
  ·exact AVal.clean _
  ·rw [List.mem_singleton.1 hx]; exact AvPure.fn hpc) (AVal.clean _) ?_
 have C := copyPatH_ok l hq (by omega)
 have hfin : (renF f ⟨l⟩).nodes = renG f l l.length := by unfold renF renG; rw [List.take_of_length_le (by rw [renK_len]; exact Nat.le_refl _)]; simp
 simp +contextual -dsimp (maxSteps := 2000000) only [↓SD, SU, SB, simprocAttr, ir_impl_renamePat, av_Pat, map_len]
 intro v4
 refine aCallH_of [] C (by simp +contextual -dsimp only [↓SD, SU, SB, simprocAttr]) ?_
 rintro r hp' ⟨u, rfl, rfl⟩
 simp +contextual -dsimp (maxSteps := 2000000) only [↓SD, SU, SB, simprocAttr, map_len]
 intro v5
 refine aLoop_of (X := Nat) (fun s => ⟨[(1, .fn g caps), (4, .ptr 4 v4 0 0), (5, .ptr 5 v5 0 0), (6, .int .i64 (varsOf (l.take s)).length), (12, .row 8 u l.length), (13, .int .i64 l.length), (14, .int .i64 s)], [(4, ⟨v4, false, 89, 1, [.agg [.nils]]⟩), (5, ⟨v5, false, 89, 1, [.agg [.row 8 u l.length]]⟩), (8, ⟨u, false, 94, 4, (renG f l s).map av⟩)]⟩) (fun s => s ≤ l.length) (fun s => l.length - s) 0 (Nat.zero_le _) (by simp +contextual -dsimp only [↓SD, SU, SB, simprocAttr, List.take_zero, varsOf, List.filterMap_nil]) (by simp +contextual -dsimp only [↓SD, SU, SB, simprocAttr, renG, List.take_zero, List.nil_append, List.drop_zero]) ?_
 intro j hj
 have hv := vars_take_le l j
 obtain ⟨c, hc⟩ : ∃ c, c = (varsOf (l.take j)).length := ⟨_, rfl⟩
 by_cases hlt : j < l.length
 ·have e : ((renG f l j).map (av : PNode → AV)).getD j .top = av l[j] := by
   rw [List.getD_eq_getElem?_getD, List.getElem?_map, renG_get f l j hlt]; rfl
  have hlE : ((renG f l j).map (av : PNode → AV)).length = l.length := by rw [List.length_map, renG_len f l j hj]
  have hset : ((renG f l j).map (av : PNode → AV)).set j (av (newP f l j l[j])) = (renG f l (j + 1)).map av := by rw [← renG_set f l j hlt, List.map_set]
  have hst := varsL_step l j hlt
  have hsame : ¬ l[j].kind = 2 → renG f l (j + 1) = renG f l j := fun h => by
   rw [← renG_set f l j hlt, newP, if_neg h]
   apply List.ext_getElem?
   intro i
   by_cases hi : i = j
   ·subst hi; rw [List.getElem?_set_self (by rw [renG_len f l i hj]; exact hlt), renG_get f l i hlt]
   ·rw [List.getElem?_set_ne (Ne.symm hi)]
  have C1 := hg c (by omega)
  unfold newP at hset
  rw [← hc] at hst hset hv ⊢
  generalize l[j] = a at *
  obtain ⟨E, hE⟩ : ∃ E, E = (renG f l j).map (av : PNode → AV) := ⟨_, rfl⟩
  rw [← hE] at e hlE hset ⊢
  by_cases h2 : a.kind = 2
  ·rw [if_pos h2] at hst hset
   have ha : av ({ a with s := f c } : PNode) = .agg [.int .i64 2, .int .i64 a.n, .str (f c), .sl (a.kids.map av)] := by rw [av_PNode, ← h2]
   rw [ha] at hset
   simp +contextual -dsimp (maxSteps := 2000000) only [↓SD, SU, SB, simprocAttr, hlt, hlE, e, av_PNode, h2, hcp]
   intro w8
   refine aCallK_of _ C1 ?_
   simp +contextual -dsimp (maxSteps := 2000000) only [↓SD, SU, SB, simprocAttr, hlt, hlE, e, av_PNode, h2, hset, hcp]
   exact ⟨by omega, by omega, Goes.le ⟨j + 1, ⟨hlt, (by first | omega | (simp only; omega))⟩, rfl⟩ (by simp +contextual -dsimp only [↓SD, SU, SB, simprocAttr, Int.natCast_add, hst]) (by simp +contextual -dsimp only [↓SD, SU, SB, simprocAttr])⟩
  ·rw [if_neg h2] at hst
   have hEq : (renG f l (j + 1)).map (av : PNode → AV) = E := by rw [hsame h2, hE]
   clear hset
   simp +contextual -dsimp (maxSteps := 2000000) only [↓SD, SU, SB, simprocAttr, hlt, hlE, e, av_PNode, h2, hcp]
   intro w8
   exact ⟨by omega, Goes.le ⟨j + 1, ⟨hlt, (by first | omega | (simp only; omega))⟩, rfl⟩ (by simp +contextual -dsimp only [↓SD, SU, SB, simprocAttr, Int.natCast_add, hst, Nat.add_zero]) (by simp +contextual -dsimp only [↓SD, SU, SB, simprocAttr, hEq])⟩
 ·obtain rfl : j = l.length := by omega
  rw [hfin]
  have hlE : ((renG f l l.length).map (av : PNode → AV)).length = l.length := by rw [List.length_map, renG_len f l _ (Nat.le_refl _)]
  have hEm : ∀ hp, ((renG f l l.length).map (av : PNode → AV)).map (AV.pur hp) = (renG f l l.length).map av := fun hp => map_nop _ hp
  have hEt : List.take l.length ((renG f l l.length).map (av : PNode → AV)) = (renG f l l.length).map av := List.take_of_length_le (by omega)
  simp +contextual -dsimp (maxSteps := 2000000) only [↓SD, SU, SB, simprocAttr, Nat.lt_irrefl, hlE, hEm, hEt, hcp]
end Go.Proofs.YtjifpdcflankpaaGreat

namespace Go.Proofs.YtjifpdcflankpaaGreat
open Go.RowKit Go.Proofs.YtjifpdcflankpaaGreat.Av Go.Proofs.YtjifpdcflankpaaGreat.Ml
open Go.Proofs.YtjifpdcflankpaaGreat.Av.AVal (av)

def namedW (t : Tr) (d : Nat) : AV :=
 if namedB t d = true then .tup [av (namedR t d), .bool true] else match t with
  | .mk n ks => .tup [if n.kind = 3 ∧ n.s ≠ bs [] then av (Tr.mk { n with pos := 0, pats := [] } []) else .nilp, .bool false]
theorem namedW_pure (t : Tr) (d : Nat) : AvPure (namedW t d) := by
 obtain ⟨n, ks⟩ := t
 unfold namedW
 split
 ·exact AvPure.tup (by simp; exact ⟨AVal.clean _, AvPure.bool _⟩)
 ·dsimp only
  have h : AvPure (if n.kind = 3 ∧ n.s ≠ bs [] then av (Tr.mk { n with pos := 0, pats := [] } []) else .nilp) := by
   split
   ·exact AVal.clean _
   ·exact AvPure.nilp
  exact AvPure.tup (by simp only [List.mem_cons, List.not_mem_nil, or_false]; rintro x (rfl | rfl); exact h; exact AvPure.bool _)
theorem namedBs_take (n : Node) (d : Nat) : ∀ (ks : List Tr) (i j : Nat) (h : j < ks.length), namedBs n i ks d = true → namedB ks[j] (underN n (i + j) d) = true
 | t :: ts, i, 0, h, hb => by rw [namedBs, Bool.and_eq_true] at hb; exact hb.1
 | t :: ts, i, j + 1, h, hb => by
  rw [namedBs, Bool.and_eq_true] at hb
  have := namedBs_take n d ts (i + 1) j (by simpa using h) hb.2
  rw [show i + 1 + j = i + (j + 1) by omega] at this
  exact this
theorem namedRs_get (n : Node) (d : Nat) : ∀ (ks : List Tr) (i j : Nat) (h : j < ks.length), (namedRs n i ks d)[j]? = some (namedR ks[j] (underN n (i + j) d))
 | t :: ts, i, 0, h => by rw [namedRs]; rfl
 | t :: ts, i, j + 1, h => by
  rw [namedRs, List.getElem?_cons_succ, namedRs_get n d ts (i + 1) j (by simpa using h), show i + 1 + j = i + (j + 1) by omega]
  rfl
theorem namedRs_len (n : Node) (d : Nat) : ∀ (ks : List Tr) (i : Nat), (namedRs n i ks d).length = ks.length
 | [], i => by rw [namedRs]
 | t :: ts, i => by rw [namedRs, List.length_cons, List.length_cons, namedRs_len]
theorem namedRs_take (n : Node) (d : Nat) (ks : List Tr) (j : Nat) (h : j < ks.length) : (namedRs n 0 ks d).take (j + 1) = (namedRs n 0 ks d).take j ++ [namedR ks[j] (underN n j d)] := by
 have h1 : j < (namedRs n 0 ks d).length := by rw [namedRs_len]; exact h
 have h2 := namedRs_get n d ks 0 j h
 rw [List.getElem?_eq_getElem h1, Nat.zero_add] at h2
 rw [List.take_succ_eq_append_getElem h1, Option.some.inj h2]
theorem namedBs_pre (n : Node) (d : Nat) : ∀ (ks : List Tr) (i : Nat), (∀ j (h : j < ks.length), namedB ks[j] (underN n (i + j) d) = true) → namedBs n i ks d = true
 | [], i, h => by rw [namedBs]
 | t :: ts, i, h => by
  rw [namedBs, Bool.and_eq_true]
  refine ⟨h 0 (by simp), namedBs_pre n d ts (i + 1) fun j hj => ?_⟩
  have := h (j + 1) (by simpa using hj)
  rw [show i + (j + 1) = i + 1 + j by omega] at this
  exact this
mutual
def Tr.e3 : Tr → Prop
 | .mk n ks => (n.kind = 3 → n.pats = []) ∧ Tr.e3s ks
def Tr.e3s : List Tr → Prop
 | [] => True
 | t :: ts => t.e3 ∧ Tr.e3s ts
end
theorem e3s_mem : ∀ {ks : List Tr} {k : Tr}, Tr.e3s ks → k ∈ ks → k.e3
 | [], k, _, hk => by cases hk
 | t :: ts, k, h, hk => by
  rw [Tr.e3s] at h
  rcases List.mem_cons.1 hk with rfl | hk
  ·exact h.1
  ·exact e3s_mem h.2 hk
set_option maxHeartbeats 4000000 in
theorem named_ok : ∀ (t : Tr), t.ok → t.pne → t.e3 → ∀ (d : Nat), d + t.wt ≤ 4100000000 → CallsF Tryz.prog 88 [av t, .int .i64 (d : Int)] (namedW t d) := by
 refine Tr.ind fun n ks ih hok hpn he3 d hb => ?_
 refine ir_impl_named.F rfl (by simp; exact ⟨AVal.clean _, pint _⟩) (namedW_pure _ _) ?_
 rw [Tr.ok] at hok
 obtain ⟨⟨ht3, ht13, hbn⟩, hoks⟩ := hok
 rw [Tr.pne] at hpn
 rw [Tr.e3] at he3
 by_cases h3 : n.kind = 3
 ·have hks : ks = [] := List.eq_nil_of_length_eq_zero (ht3 h3)
  have hps := he3.1 h3
  subst hks
  obtain ⟨nk, npos, nn, ns, nkids, npats⟩ := n
  simp only at h3 hps
  subst h3 hps
  have hwt : 1 ≤ d + Tr.wt (.mk ⟨3, npos, nn, ns, nkids, []⟩ []) := by rw [Tr.wt]; omega
  by_cases hs : ns = bs []
  ·have hW : namedW (.mk ⟨3, npos, nn, ns, nkids, []⟩ []) d = if 0 ≤ nn ∧ nn ≤ (d : Int) - 1 then .tup [av (Tr.mk ⟨3, 0, 0, dnN ((d : Int) - 1 - nn), nkids, []⟩ []), .bool true] else .tup [.nilp, .bool false] := by
    unfold namedW
    rw [namedB, namedBs, boundB, Bool.and_true, if_pos rfl, if_pos hs]
    simp only [Bool.and_eq_true, decide_eq_true_eq]
    split
    ·rw [namedR, namedRs, nameD, if_pos rfl, if_pos hs]; rfl
    ·rw [if_neg (fun h => h.2 hs)]
   rw [hW]
   have hs2 : (ns = bs []) = True := eq_true hs
   have CW := within_ok nn 0 ((d : Int) - 1)
   by_cases hn : 0 ≤ nn ∧ nn ≤ (d : Int) - 1
   ·rw [if_pos hn]
    have hw : (decide (0 ≤ nn) && decide (nn ≤ (d : Int) - 1)) = true := by simp [hn.1, hn.2]
    rw [hw] at CW
    have CD := depthName_ok (d - 1 - nn.toNat) (by omega)
    have hci : (d : Int) - 1 - nn = ((d - 1 - nn.toNat : Nat) : Int) := by omega
    rw [← hci] at CD
    simp +contextual -dsimp (maxSteps := 2000000) only [↓SD, SU, SB, simprocAttr, ir_impl_named, av_Tr, hs2, map_len, List.map_nil]
    intro v
    refine ⟨by omega, ?_⟩
    refine aCallK_of _ CW ?_
    simp +contextual -dsimp (maxSteps := 2000000) only [↓SD, SU, SB, simprocAttr]
    refine ⟨by omega, by omega, ?_⟩
    refine aCallK_of _ CD ?_
    simp +contextual -dsimp (maxSteps := 2000000) only [↓SD, SU, SB, simprocAttr]
    refine ghost_of (Goes.adoptB 28 0 4 169 55 1 rfl rfl Nat.zero_lt_one rfl (by decide) fun a => ?_)
    refine Goes.adoptB 28 0 5 191 89 1 rfl rfl Nat.zero_lt_one rfl (by decide) fun b => Goes.here ?_
    simp +contextual -dsimp (maxSteps := 2000000) only [↓SD, SU, SB, simprocAttr, av_Tr, List.map_nil, List.take_zero]
   ·rw [if_neg hn]
    have hw : (decide (0 ≤ nn) && decide (nn ≤ (d : Int) - 1)) = false := by
     rw [Bool.and_eq_false_iff, decide_eq_false_iff_not, decide_eq_false_iff_not]; omega
    rw [hw] at CW
    simp +contextual -dsimp (maxSteps := 2000000) only [↓SD, SU, SB, simprocAttr, ir_impl_named, av_Tr, hs2, map_len, List.map_nil]
    intro v
    refine ⟨by omega, ?_⟩
    refine aCallK_of _ CW ?_
    simp +contextual -dsimp (maxSteps := 2000000) only [↓SD, SU, SB, simprocAttr]
  ·have hW : namedW (.mk ⟨3, npos, nn, ns, nkids, []⟩ []) d = .tup [av (Tr.mk ⟨3, 0, nn, ns, nkids, []⟩ []), .bool (decide (nn = 0) && givenB ns)] := by
    unfold namedW
    rw [namedB, namedBs, boundB, Bool.and_true, if_pos rfl, if_neg hs]
    cases hh : (decide (nn = 0) && givenB ns) with
    | true => rw [if_pos rfl, namedR, namedRs, nameD, if_pos rfl, if_neg hs]; rfl
    | false => rw [if_neg (by simp)]; simp [hs]
   rw [hW]
   have hs2 : (ns = bs []) = False := eq_false hs
   have CG := given_ok ns
   by_cases hn : nn = 0
   ·subst hn
    cases hg : givenB ns with
    | true =>
     obtain ⟨x, y, z, he⟩ := givenV_yes hg
     rw [he] at CG
     simp +contextual -dsimp (maxSteps := 2000000) only [↓SD, SU, SB, simprocAttr, ir_impl_named, av_Tr, hs2, map_len, List.map_nil]
     intro v
     refine ghost_of (Goes.adoptB 28 0 4 169 55 1 rfl rfl Nat.zero_lt_one rfl (by decide) fun a => ?_)
     refine Goes.adoptB 28 0 5 191 89 1 rfl rfl Nat.zero_lt_one rfl (by decide) fun b => Goes.here ?_
     simp +contextual -dsimp (maxSteps := 2000000) only [↓SD, SU, SB, simprocAttr, av_Tr, List.map_nil, List.take_zero]
     refine aCallK_of _ CG ?_
     simp +contextual -dsimp (maxSteps := 2000000) only [↓SD, SU, SB, simprocAttr, av_Tr, List.map_nil, List.take_zero, decide_true, Bool.true_and]
    | false =>
     rw [givenV_no hg] at CG
     simp +contextual -dsimp (maxSteps := 2000000) only [↓SD, SU, SB, simprocAttr, ir_impl_named, av_Tr, hs2, map_len, List.map_nil]
     intro v
     refine ghost_of (Goes.adoptB 28 0 4 169 55 1 rfl rfl Nat.zero_lt_one rfl (by decide) fun a => ?_)
     refine Goes.adoptB 28 0 5 191 89 1 rfl rfl Nat.zero_lt_one rfl (by decide) fun b => Goes.here ?_
     simp +contextual -dsimp (maxSteps := 2000000) only [↓SD, SU, SB, simprocAttr, av_Tr, List.map_nil, List.take_zero]
     refine aCallK_of _ CG ?_
     simp +contextual -dsimp (maxSteps := 2000000) only [↓SD, SU, SB, simprocAttr, av_Tr, List.map_nil, List.take_zero, decide_true, Bool.true_and]
   ·have hn2 : (nn = 0) = False := eq_false hn
    simp +contextual -dsimp (maxSteps := 2000000) only [↓SD, SU, SB, simprocAttr, ir_impl_named, av_Tr, hs2, map_len, List.map_nil, hn2]
    intro v
    refine ghost_of (Goes.adoptB 28 0 4 169 55 1 rfl rfl Nat.zero_lt_one rfl (by decide) fun a => ?_)
    refine Goes.adoptB 28 0 5 191 89 1 rfl rfl Nat.zero_lt_one rfl (by decide) fun b => Goes.here ?_
    simp +contextual -dsimp (maxSteps := 2000000) only [↓SD, SU, SB, simprocAttr, av_Tr, List.map_nil, List.take_zero, hn2, decide_false, Bool.false_and]
 have hW : namedW (.mk n ks) d = if namedBs n 0 ks d = true then .tup [av (Tr.mk (nameD n d) (namedRs n 0 ks d)), .bool true] else .tup [.nilp, .bool false] := by
  unfold namedW
  rw [namedB, boundB, if_neg h3, Bool.true_and, namedR]
  dsimp only
  rw [if_neg (fun h : n.kind = 3 ∧ n.s ≠ bs [] => h3 h.1)]
 rw [hW]
 have CC := ContainsInt_ok [5, 7, 8, 15] n.kind (by decide)
 have hany : ([5, 7, 8, 15] : List Int).any (fun y => decide (n.kind = y)) = bindsK n.kind := by simp [bindsK, Bool.or_assoc]
 rw [hany] at CC
 have hl5 : ([5, 7, 8, 15] : List Int).map av = [AV.int .i64 5, AV.int .i64 7, AV.int .i64 8, AV.int .i64 15] := rfl
 rw [hl5] at CC
 have hwt := hb
 rw [Tr.wt] at hwt
 have CD := depthName_ok d (by omega)
 obtain ⟨s0, hs0⟩ : ∃ s0, s0 = if bindsK n.kind = true then dnN (d : Int) else n.s := ⟨_, rfl⟩
 have hND : nameD n d = { n with pos := 0, s := s0, pats := n.pats.map (renF fun k => dnN ((d + k : Nat) : Int)) } := by unfold nameD; rw [if_neg h3, hs0]
 rw [hND]
 cases hbk : bindsK n.kind
 all_goals
  rw [hbk] at CC hs0
  simp only [Bool.false_eq_true, if_true, if_false] at hs0
  simp +contextual -dsimp (maxSteps := 2000000) only [↓SD, SU, SB, simprocAttr, ir_impl_named, av_Tr, h3, map_len]
  intro u28
  refine aCallK_of _ CC ?_
  simp +contextual -dsimp (maxSteps := 2000000) only [↓SD, SU, SB, simprocAttr, map_len]
  try (refine aCallK_of _ CD ?_; simp +contextual -dsimp (maxSteps := 2000000) only [↓SD, SU, SB, simprocAttr, map_len])
  refine aLoop_goes (X := CkS) (fun x => ⟨[(0, .obj [.int .i64 n.kind, .int .i64 n.pos, .int .i64 n.n, .str n.s, .sl (ks.map av), .sl (n.pats.map av)]), (3, .obj [.int .i64 d]), (6, .ptr 28 u28 0 0), (91, .sl (ks.map av)), (92, .int .i64 ks.length), (93, .int .i64 x.j)], [(28, ⟨u28, false, 103, 6, [.agg [.int .i64 n.kind, .int .i64 0, .int .i64 n.n, .str s0, .row 169 x.u x.j, .row 191 x.v 0]]⟩), (169, ⟨x.u, false, 55, 1, x.L.map av⟩), (191, ⟨x.v, false, 89, 1, []⟩)]⟩) (fun x => x.j ≤ ks.length ∧ x.L.length = x.j ∧ x.L = (namedRs n 0 ks d).take x.j ∧ ∀ j (h : j < ks.length), j < x.j → namedB ks[j] (underN n j d) = true) (fun x => ks.length - x.j) ?_ ?_
  ·refine Goes.adoptB 28 0 4 169 55 1 rfl rfl Nat.zero_lt_one rfl (by decide) fun a => ?_
   refine Goes.adoptB 28 0 5 191 89 1 rfl rfl Nat.zero_lt_one rfl (by decide) fun b => ?_
   exact Goes.le ⟨⟨0, a, b, []⟩, ⟨Nat.zero_le _, rfl, by simp, fun j h h' => absurd h' (Nat.not_lt_zero _)⟩, rfl⟩ (by simp +contextual -dsimp only [↓SD, SU, SB, simprocAttr]) (by simp +contextual -dsimp only [↓SD, SU, SB, simprocAttr, List.map_nil, hs0])
  rintro ⟨j, u, v, L⟩ ⟨hj, hLl, hLt0, hcb⟩
  dsimp only at hj hLl hLt0 hcb ⊢
  by_cases hlt : j < ks.length
  ·have e1 := getD_map av ks j .top hlt
   have hkm := List.getElem_mem hlt
   have hw := wts_mem hkm
   have hwl := wts_len ks
   have hun : underN n j d ≤ d + (1 + (n.pats.map fun q => (varsOf q.nodes).length).sum) := by
    have h := innerE_len n j (List.replicate d n.s)
    have h2 : (innerE n j (List.replicate d n.s)).length = underN n j d := by
     unfold innerE underN
     split
     ·rw [List.length_append, List.length_replicate]
     ·split
      ·rw [List.length_append, List.length_replicate]; rfl
      ·rw [List.length_replicate]
    rw [h2, List.length_replicate] at h
    exact h
   have CI := ih ks[j] hkm (oks_mem hoks hkm) (pnes_mem hpn.2 hkm) (e3s_mem he3.2 hkm) (underN n j d) (by omega)
   have hres : (∃ y, CallsF Tryz.prog 88 [av ks[j], .int .i64 ((underN n j d : Nat) : Int)] (.tup [y, .bool false]) ∧ namedBs n 0 ks d = false) ∨ (∃ t', CallsF Tryz.prog 88 [av ks[j], .int .i64 ((underN n j d : Nat) : Int)] (.tup [av t', .bool true]) ∧ L ++ [t'] = (namedRs n 0 ks d).take (j + 1) ∧ ∀ i (h : i < ks.length), i < j + 1 → namedB ks[i] (underN n i d) = true) := by
    unfold namedW at CI
    cases hk : namedB ks[j] (underN n j d) with
    | false =>
     rw [hk, if_neg (by simp)] at CI
     refine .inl ?_
     have hno : namedBs n 0 ks d = false := by
      cases hh : namedBs n 0 ks d with
      | false => rfl
      | true =>
       have := namedBs_take n d ks 0 j hlt hh
       rw [Nat.zero_add, hk] at this
       cases this
     generalize ks[j] = k at *
     obtain ⟨kn, kks⟩ := k
     exact ⟨_, CI, hno⟩
    | true =>
     rw [hk, if_pos rfl] at CI
     refine .inr ⟨_, CI, by rw [namedRs_take n d ks j hlt, hLt0], fun i h hi => ?_⟩
     by_cases hij : i = j
     ·subst hij; exact hk
     ·exact hcb i h (by omega)
   clear CI ih hcb hLt0
   generalize ks[j] = k at *
   have hcase : (n.kind = 13 ∧ 0 < j) ∨ (n.kind = 13 ∧ j = 0) ∨ n.kind = 5 ∨ n.kind = 8 ∨ (j = 1 ∧ n.kind = 7) ∨ (j = 1 ∧ n.kind = 15) ∨ (j = 1 ∧ ¬ n.kind = 13 ∧ ¬ n.kind = 5 ∧ ¬ n.kind = 8 ∧ ¬ n.kind = 7 ∧ ¬ n.kind = 15) ∨ (¬ j = 1 ∧ ¬ n.kind = 13 ∧ ¬ n.kind = 5 ∧ ¬ n.kind = 8) := by omega
   rcases hres with ⟨y, CI, hnone⟩ | ⟨y, CI, hco⟩
   all_goals
    try rw [hnone, if_neg (by simp)]
    have hLt : List.take j (L.map (av : Tr → AV)) = L.map av := List.take_of_length_le (by rw [List.length_map]; omega)
    rcases hcase with ⟨h13, h0⟩ | ⟨h13, h0⟩ | h5 | h8 | ⟨h1, h7⟩ | ⟨h1, h15⟩ | ⟨h1, g1, g2, g3, g4, g5⟩ | ⟨h1, g1, g2, g3⟩
    ·have F13 : (n.kind = 13) = True := eq_true (by omega)
     have F5 : (n.kind = 5) = False := eq_false (by omega)
     have F8 : (n.kind = 8) = False := eq_false (by omega)
     have F7 : (n.kind = 7) = False := eq_false (by omega)
     have F15 : (n.kind = 15) = False := eq_false (by omega)
     have J0 : ((0 : Int) < (j : Int)) = True := eq_true (by omega)
     have J1 : 0 = 0 := rfl
     have hlp : j - 1 < n.pats.length := by have := ht13 h13; omega
     have hji : (j : Int) - 1 = ((j - 1 : Nat) : Int) := by omega
     have e2 := getD_map av n.pats (j - 1) .top hlp
     have hpg : n.pats.getD (j - 1) ⟨[]⟩ = n.pats[j - 1] := by simp [hlp]
     have hie : underN n j d = d + (varsOf n.pats[j - 1].nodes).length := by unfold underN; rw [if_pos ⟨h13, h0⟩, hpg]
     have hvs := vars_sum (List.getElem_mem hlp)
     have hbp : Bulk.bulk n.pats ≤ Bulk.bulk n := by simp only [Bulk.bulk]; omega
     have hbq : Bulk.bulk n.pats[j - 1].nodes + 1 + 1 ≤ Bulk.bulk n.pats := bulk_mem (List.getElem_mem hlp)
     have CP := patNames_ok n.pats[j - 1].nodes (by omega)
     have hci : (d : Int) + ((varsOf n.pats[j - 1].nodes).length : Int) = ((underN n j d : Nat) : Int) := by rw [hie]; omega
     rw [Tr.wt] at hb
     generalize n.pats[j - 1] = q at *
     simp +contextual -dsimp (maxSteps := 2000000) only [↓SD, SU, SB, simprocAttr, hlt, e1, map_len, F13, F5, F8, F7, F15, J0, J1, hji, e2, hlp, av_Pat, tr_cells, tr_pur, tr_pur1, tr_purA, tr_one, tr_ok]
     have hpl := bulk_length n.pats
     have hp13 := ht13 h13
     refine ⟨by omega, ?_⟩
     refine aCallK_of _ CP ?_
     simp +contextual -dsimp (maxSteps := 2000000) only [↓SD, SU, SB, simprocAttr, map_len, hci, tr_cells, tr_pur, tr_pur1, tr_purA, tr_one, tr_ok]
     refine ⟨by omega, ?_⟩
     refine aCallK_of _ CI ?_
     simp +contextual -dsimp (maxSteps := 2000000) only [↓SD, SU, SB, simprocAttr, hLl, hLt, map_len, tr_cells, tr_pur, tr_pur1, tr_purA, tr_one, tr_ok]
     try exact ⟨⟨by omega, by unfold maxLen; omega⟩, fun u' => ⟨by omega, Goes.le ⟨⟨j + 1, u', v, L ++ [y]⟩, ⟨⟨hlt, by simp only [List.length_append, List.length_cons, List.length_nil]; omega, hco.1, hco.2⟩, (by first | omega | (simp only; omega))⟩, rfl⟩ (by simp +contextual -dsimp only [↓SD, SU, SB, simprocAttr, Int.natCast_add]) (by simp +contextual -dsimp only [↓SD, SU, SB, simprocAttr, List.map_append])⟩⟩
    ·have F13 : (n.kind = 13) = True := eq_true (by omega)
     have F5 : (n.kind = 5) = False := eq_false (by omega)
     have F8 : (n.kind = 8) = False := eq_false (by omega)
     have F7 : (n.kind = 7) = False := eq_false (by omega)
     have F15 : (n.kind = 15) = False := eq_false (by omega)
     have J0 : ((0 : Int) < (j : Int)) = False := eq_false (by omega)
     have J1 : ((j : Int) = 1) = False := eq_false (by omega)
     have hie : underN n j d = d := by unfold underN; rw [if_neg (by omega), if_neg (by omega)]
     rw [hie] at CI
     rw [Tr.wt] at hb
     simp +contextual -dsimp (maxSteps := 2000000) only [↓SD, SU, SB, simprocAttr, hlt, e1, map_len, F13, F5, F8, F7, F15, J0, J1, tr_cells, tr_pur, tr_pur1, tr_purA, tr_one, tr_ok]
     refine aCallK_of _ CI ?_
     simp +contextual -dsimp (maxSteps := 2000000) only [↓SD, SU, SB, simprocAttr, hLl, hLt, map_len, tr_cells, tr_pur, tr_pur1, tr_purA, tr_one, tr_ok]
     try exact ⟨⟨by omega, by unfold maxLen; omega⟩, fun u' => ⟨by omega, Goes.le ⟨⟨j + 1, u', v, L ++ [y]⟩, ⟨⟨hlt, by simp only [List.length_append, List.length_cons, List.length_nil]; omega, hco.1, hco.2⟩, (by first | omega | (simp only; omega))⟩, rfl⟩ (by simp +contextual -dsimp only [↓SD, SU, SB, simprocAttr, Int.natCast_add]) (by simp +contextual -dsimp only [↓SD, SU, SB, simprocAttr, List.map_append])⟩⟩
    ·have F13 : (n.kind = 13) = False := eq_false (by omega)
     have F5 : (n.kind = 5) = True := eq_true (by omega)
     have F8 : (n.kind = 8) = False := eq_false (by omega)
     have F7 : (n.kind = 7) = False := eq_false (by omega)
     have F15 : (n.kind = 15) = False := eq_false (by omega)
     have J0 : 0 = 0 := rfl
     have J1 : 0 = 0 := rfl
     have hie : underN n j d = d + 1 := by unfold underN; rw [if_neg (by omega), if_pos (by omega)]
     have hci : (d : Int) + 1 = ((underN n j d : Nat) : Int) := by rw [hie]; omega
     rw [Tr.wt] at hb
     simp +contextual -dsimp (maxSteps := 2000000) only [↓SD, SU, SB, simprocAttr, hlt, e1, map_len, F13, F5, F8, F7, F15, J0, J1, hci, tr_cells, tr_pur, tr_pur1, tr_purA, tr_one, tr_ok]
     refine ⟨by omega, ?_⟩
     refine aCallK_of _ CI ?_
     simp +contextual -dsimp (maxSteps := 2000000) only [↓SD, SU, SB, simprocAttr, hLl, hLt, map_len, tr_cells, tr_pur, tr_pur1, tr_purA, tr_one, tr_ok]
     try exact ⟨⟨by omega, by unfold maxLen; omega⟩, fun u' => ⟨by omega, Goes.le ⟨⟨j + 1, u', v, L ++ [y]⟩, ⟨⟨hlt, by simp only [List.length_append, List.length_cons, List.length_nil]; omega, hco.1, hco.2⟩, (by first | omega | (simp only; omega))⟩, rfl⟩ (by simp +contextual -dsimp only [↓SD, SU, SB, simprocAttr, Int.natCast_add]) (by simp +contextual -dsimp only [↓SD, SU, SB, simprocAttr, List.map_append])⟩⟩
    ·have F13 : (n.kind = 13) = False := eq_false (by omega)
     have F5 : (n.kind = 5) = False := eq_false (by omega)
     have F8 : (n.kind = 8) = True := eq_true (by omega)
     have F7 : (n.kind = 7) = False := eq_false (by omega)
     have F15 : (n.kind = 15) = False := eq_false (by omega)
     have J0 : 0 = 0 := rfl
     have J1 : 0 = 0 := rfl
     have hie : underN n j d = d + 1 := by unfold underN; rw [if_neg (by omega), if_pos (by omega)]
     have hci : (d : Int) + 1 = ((underN n j d : Nat) : Int) := by rw [hie]; omega
     rw [Tr.wt] at hb
     simp +contextual -dsimp (maxSteps := 2000000) only [↓SD, SU, SB, simprocAttr, hlt, e1, map_len, F13, F5, F8, F7, F15, J0, J1, hci, tr_cells, tr_pur, tr_pur1, tr_purA, tr_one, tr_ok]
     refine ⟨by omega, ?_⟩
     refine aCallK_of _ CI ?_
     simp +contextual -dsimp (maxSteps := 2000000) only [↓SD, SU, SB, simprocAttr, hLl, hLt, map_len, tr_cells, tr_pur, tr_pur1, tr_purA, tr_one, tr_ok]
     try exact ⟨⟨by omega, by unfold maxLen; omega⟩, fun u' => ⟨by omega, Goes.le ⟨⟨j + 1, u', v, L ++ [y]⟩, ⟨⟨hlt, by simp only [List.length_append, List.length_cons, List.length_nil]; omega, hco.1, hco.2⟩, (by first | omega | (simp only; omega))⟩, rfl⟩ (by simp +contextual -dsimp only [↓SD, SU, SB, simprocAttr, Int.natCast_add]) (by simp +contextual -dsimp only [↓SD, SU, SB, simprocAttr, List.map_append])⟩⟩
    ·have F13 : (n.kind = 13) = False := eq_false (by omega)
     have F5 : (n.kind = 5) = False := eq_false (by omega)
     have F8 : (n.kind = 8) = False := eq_false (by omega)
     have F7 : (n.kind = 7) = True := eq_true (by omega)
     have F15 : (n.kind = 15) = False := eq_false (by omega)
     have J0 : 0 = 0 := rfl
     have J1 : ((j : Int) = 1) = True := eq_true (by omega)
     have hie : underN n j d = d + 1 := by unfold underN; rw [if_neg (by omega), if_pos (by omega)]
     have hci : (d : Int) + 1 = ((underN n j d : Nat) : Int) := by rw [hie]; omega
     rw [Tr.wt] at hb
     simp +contextual -dsimp (maxSteps := 2000000) only [↓SD, SU, SB, simprocAttr, hlt, e1, map_len, F13, F5, F8, F7, F15, J0, J1, hci, tr_cells, tr_pur, tr_pur1, tr_purA, tr_one, tr_ok]
     refine ⟨by omega, ?_⟩
     refine aCallK_of _ CI ?_
     simp +contextual -dsimp (maxSteps := 2000000) only [↓SD, SU, SB, simprocAttr, hLl, hLt, map_len, tr_cells, tr_pur, tr_pur1, tr_purA, tr_one, tr_ok]
     try exact ⟨⟨by omega, by unfold maxLen; omega⟩, fun u' => ⟨by omega, Goes.le ⟨⟨j + 1, u', v, L ++ [y]⟩, ⟨⟨hlt, by simp only [List.length_append, List.length_cons, List.length_nil]; omega, hco.1, hco.2⟩, (by first | omega | (simp only; omega))⟩, rfl⟩ (by simp +contextual -dsimp only [↓SD, SU, SB, simprocAttr, Int.natCast_add]) (by simp +contextual -dsimp only [↓SD, SU, SB, simprocAttr, List.map_append])⟩⟩
    ·have F13 : (n.kind = 13) = False := eq_false (by omega)
     have F5 : (n.kind = 5) = False := eq_false (by omega)
     have F8 : (n.kind = 8) = False := eq_false (by omega)
     have F7 : (n.kind = 7) = False := eq_false (by omega)
     have F15 : (n.kind = 15) = True := eq_true (by omega)
     have J0 : 0 = 0 := rfl
     have J1 : ((j : Int) = 1) = True := eq_true (by omega)
     have hie : underN n j d = d + 1 := by unfold underN; rw [if_neg (by omega), if_pos (by omega)]
     have hci : (d : Int) + 1 = ((underN n j d : Nat) : Int) := by rw [hie]; omega
     rw [Tr.wt] at hb
     simp +contextual -dsimp (maxSteps := 2000000) only [↓SD, SU, SB, simprocAttr, hlt, e1, map_len, F13, F5, F8, F7, F15, J0, J1, hci, tr_cells, tr_pur, tr_pur1, tr_purA, tr_one, tr_ok]
     refine ⟨by omega, ?_⟩
     refine aCallK_of _ CI ?_
     simp +contextual -dsimp (maxSteps := 2000000) only [↓SD, SU, SB, simprocAttr, hLl, hLt, map_len, tr_cells, tr_pur, tr_pur1, tr_purA, tr_one, tr_ok]
     try exact ⟨⟨by omega, by unfold maxLen; omega⟩, fun u' => ⟨by omega, Goes.le ⟨⟨j + 1, u', v, L ++ [y]⟩, ⟨⟨hlt, by simp only [List.length_append, List.length_cons, List.length_nil]; omega, hco.1, hco.2⟩, (by first | omega | (simp only; omega))⟩, rfl⟩ (by simp +contextual -dsimp only [↓SD, SU, SB, simprocAttr, Int.natCast_add]) (by simp +contextual -dsimp only [↓SD, SU, SB, simprocAttr, List.map_append])⟩⟩
    ·have F13 : (n.kind = 13) = False := eq_false (by omega)
     have F5 : (n.kind = 5) = False := eq_false (by omega)
     have F8 : (n.kind = 8) = False := eq_false (by omega)
     have F7 : (n.kind = 7) = False := eq_false (by omega)
     have F15 : (n.kind = 15) = False := eq_false (by omega)
     have J0 : 0 = 0 := rfl
     have J1 : ((j : Int) = 1) = True := eq_true (by omega)
     have hie : underN n j d = d := by unfold underN; rw [if_neg (by omega), if_neg (by omega)]
     rw [hie] at CI
     rw [Tr.wt] at hb
     simp +contextual -dsimp (maxSteps := 2000000) only [↓SD, SU, SB, simprocAttr, hlt, e1, map_len, F13, F5, F8, F7, F15, J0, J1, tr_cells, tr_pur, tr_pur1, tr_purA, tr_one, tr_ok]
     refine aCallK_of _ CI ?_
     simp +contextual -dsimp (maxSteps := 2000000) only [↓SD, SU, SB, simprocAttr, hLl, hLt, map_len, tr_cells, tr_pur, tr_pur1, tr_purA, tr_one, tr_ok]
     try exact ⟨⟨by omega, by unfold maxLen; omega⟩, fun u' => ⟨by omega, Goes.le ⟨⟨j + 1, u', v, L ++ [y]⟩, ⟨⟨hlt, by simp only [List.length_append, List.length_cons, List.length_nil]; omega, hco.1, hco.2⟩, (by first | omega | (simp only; omega))⟩, rfl⟩ (by simp +contextual -dsimp only [↓SD, SU, SB, simprocAttr, Int.natCast_add]) (by simp +contextual -dsimp only [↓SD, SU, SB, simprocAttr, List.map_append])⟩⟩
    ·have F13 : (n.kind = 13) = False := eq_false (by omega)
     have F5 : (n.kind = 5) = False := eq_false (by omega)
     have F8 : (n.kind = 8) = False := eq_false (by omega)
     have F7 : 0 = 0 := rfl
     have F15 : 0 = 0 := rfl
     have J0 : 0 = 0 := rfl
     have J1 : ((j : Int) = 1) = False := eq_false (by omega)
     have hie : underN n j d = d := by unfold underN; rw [if_neg (by omega), if_neg (by omega)]
     rw [hie] at CI
     rw [Tr.wt] at hb
     simp +contextual -dsimp (maxSteps := 2000000) only [↓SD, SU, SB, simprocAttr, hlt, e1, map_len, F13, F5, F8, F7, F15, J0, J1, tr_cells, tr_pur, tr_pur1, tr_purA, tr_one, tr_ok]
     refine aCallK_of _ CI ?_
     simp +contextual -dsimp (maxSteps := 2000000) only [↓SD, SU, SB, simprocAttr, hLl, hLt, map_len, tr_cells, tr_pur, tr_pur1, tr_purA, tr_one, tr_ok]
     try exact ⟨⟨by omega, by unfold maxLen; omega⟩, fun u' => ⟨by omega, Goes.le ⟨⟨j + 1, u', v, L ++ [y]⟩, ⟨⟨hlt, by simp only [List.length_append, List.length_cons, List.length_nil]; omega, hco.1, hco.2⟩, (by first | omega | (simp only; omega))⟩, rfl⟩ (by simp +contextual -dsimp only [↓SD, SU, SB, simprocAttr, Int.natCast_add]) (by simp +contextual -dsimp only [↓SD, SU, SB, simprocAttr, List.map_append])⟩⟩
  ·obtain rfl : j = ks.length := by omega
   have hyes : namedBs n 0 ks d = true := namedBs_pre n d ks 0 fun j h => by rw [Nat.zero_add]; exact hcb j h h
   rw [hyes, if_pos rfl]
   rw [List.take_of_length_le (by rw [namedRs_len]; exact Nat.le_refl _)] at hLt0
   rw [← hLt0]
   have hLt : List.take ks.length (L.map (av : Tr → AV)) = L.map av := List.take_of_length_le (by rw [List.length_map]; omega)
   have hLm : ∀ hp, (L.map (av : Tr → AV)).map (AV.pur hp) = L.map av := fun hp => map_nop _ hp
   have hbp : Bulk.bulk n.pats ≤ Bulk.bulk n := by simp only [Bulk.bulk]; omega
   have hpl := bulk_length n.pats
   simp +contextual -dsimp (maxSteps := 2000000) only [↓SD, SU, SB, simprocAttr, Nat.lt_irrefl, map_len]
   refine aLoop_of (X := Nat × Nat) (fun x => ⟨[(3, .obj [.int .i64 d]), (6, .ptr 28 u28 0 0), (176, .sl (n.pats.map av)), (177, .int .i64 n.pats.length), (178, .int .i64 x.1)], [(28, ⟨u28, false, 103, 6, [.agg [.int .i64 n.kind, .int .i64 0, .int .i64 n.n, .str s0, .row 169 u ks.length, .row 191 x.2 x.1]]⟩), (169, ⟨u, false, 55, 1, L.map av⟩), (191, ⟨x.2, false, 89, 1, ((n.pats.take x.1).map (renF fun k => dnN ((d + k : Nat) : Int))).map av⟩)]⟩) (fun x => x.1 ≤ n.pats.length) (fun x => n.pats.length - x.1) (0, v) (Nat.zero_le _) (by simp +contextual -dsimp only [↓SD, SU, SB, simprocAttr]) (by simp +contextual -dsimp only [↓SD, SU, SB, simprocAttr, List.take_zero, List.map_nil]) ?_
   rintro ⟨i, w⟩ hi
   dsimp only at hi ⊢
   by_cases hlt2 : i < n.pats.length
   ·have e1 := getD_map av n.pats i .top hlt2
    have hqm := List.getElem_mem hlt2
    have hbq := bulk_mem hqm
    have hbq2 : Bulk.bulk n.pats[i].nodes + 1 = Bulk.bulk n.pats[i] := rfl
    have hql := bulk_length n.pats[i].nodes
    have CR := renamePatG_ok (fun k => dnN ((d + k : Nat) : Int)) 144 [.obj [.int .i64 (d : Int)]] (by intro x hx; rw [List.mem_singleton.1 hx]; exact AvPure.obj (by simp; exact pint _)) (fun hp => rfl) n.pats[i] (fun c hc => named1_ok c d (by omega)) (hpn.1 _ hqm) (by omega)
    have ht : (n.pats.take (i + 1)).map (renF fun k => dnN ((d + k : Nat) : Int)) = (n.pats.take i).map (renF fun k => dnN ((d + k : Nat) : Int)) ++ [renF (fun k => dnN ((d + k : Nat) : Int)) n.pats[i]] := by rw [List.take_succ_eq_append_getElem hlt2, List.map_append]; rfl
    have hRl : (((n.pats.take i).map (renF fun k => dnN ((d + k : Nat) : Int))).map (av : Pat → AV)).length = i := by simp; omega
    have hRt : List.take i (((n.pats.take i).map (renF fun k => dnN ((d + k : Nat) : Int))).map (av : Pat → AV)) = ((n.pats.take i).map (renF fun k => dnN ((d + k : Nat) : Int))).map av := List.take_of_length_le (by omega)
    generalize renF (fun k => dnN ((d + k : Nat) : Int)) n.pats[i] = q' at *
    generalize n.pats[i] = q at *
    generalize (n.pats.take i).map (renF fun k => dnN ((d + k : Nat) : Int)) = RR at *
    rw [av_Pat, av_Pat] at CR
    simp +contextual -dsimp (maxSteps := 2000000) only [↓SD, SU, SB, simprocAttr, hlt2, e1, map_len, av_Pat]
    intro w14
    refine aCallK_of _ CR ?_
    simp +contextual -dsimp (maxSteps := 2000000) only [↓SD, SU, SB, simprocAttr, hRl, hRt, av_Pat, map_len, map_nop]
    exact ⟨⟨by omega, by unfold maxLen; omega⟩, fun w' => ⟨by omega, Goes.le ⟨(i + 1, w'), ⟨hlt2, (by first | omega | (simp only; omega))⟩, rfl⟩ (by simp +contextual -dsimp only [↓SD, SU, SB, simprocAttr, Int.natCast_add]) (by simp +contextual -dsimp only [↓SD, SU, SB, simprocAttr, ht, List.map_append, av_Pat])⟩⟩
   ·obtain rfl : i = n.pats.length := by omega
    rw [List.take_length]
    have hPl : ((n.pats.map (renF fun k => dnN ((d + k : Nat) : Int))).map (av : Pat → AV)).length = n.pats.length := by simp
    have hPt : List.take n.pats.length ((n.pats.map (renF fun k => dnN ((d + k : Nat) : Int))).map (av : Pat → AV)) = (n.pats.map (renF fun k => dnN ((d + k : Nat) : Int))).map av := List.take_of_length_le (by omega)
    have hPm : ∀ hp, ((n.pats.map (renF fun k => dnN ((d + k : Nat) : Int))).map (av : Pat → AV)).map (AV.pur hp) = (n.pats.map (renF fun k => dnN ((d + k : Nat) : Int))).map av := fun hp => map_nop _ hp
    have hLl2 : (L.map (av : Tr → AV)).length = ks.length := by rw [List.length_map, hLl]
    simp +contextual -dsimp (maxSteps := 2000000) only [↓SD, SU, SB, simprocAttr, Nat.lt_irrefl, hPl, hPt, hPm, hLl2, hLt, hLm]
end Go.Proofs.YtjifpdcflankpaaGreat

namespace Go.Proofs.YtjifpdcflankpaaGreat
open Go.RowKit Go.Proofs.YtjifpdcflankpaaGreat.Av Go.Proofs.YtjifpdcflankpaaGreat.Ml
open Go.Proofs.YtjifpdcflankpaaGreat.Av.AVal (av)

theorem dnN_le (i : Int) : (dnN i).size ≤ 66 := by
 unfold dnN
 rw [ByteArray.size_append]
 have h1 := numS_le i
 have h2 : (bs [118]).size = 1 := rfl
 omega
theorem renK_bulk {f : Nat → ByteArray} (hf : ∀ k, (f k).size ≤ 66) : ∀ (l : List PNode) (c : Nat), ((renK f c l).map Bulk.bulk).sum ≤ 15 * (l.map Bulk.bulk).sum
 | [], c => Nat.zero_le _
 | n :: r, c => by
  have h0 : Bulk.bulk n = Bulk.bulk n.kind + Bulk.bulk n.n + (n.s.size + 1) + Bulk.bulk n.kids + 1 := rfl
  have h1 : Bulk.bulk n.kind = 1 := rfl
  have h2 : Bulk.bulk n.n = 1 := rfl
  have h3 := bulk_len_int n.kids
  rw [renK]
  split
  ·have h4 : Bulk.bulk ({ n with s := f c } : PNode) = Bulk.bulk n.kind + Bulk.bulk n.n + ((f c).size + 1) + Bulk.bulk n.kids + 1 := rfl
   have h5 := hf c
   have h6 := renK_bulk hf r (c + 1)
   simp only [List.map_cons, List.sum_cons]
   omega
  ·have h6 := renK_bulk hf r c
   simp only [List.map_cons, List.sum_cons]
   omega
theorem renF_bulk {f : Nat → ByteArray} (hf : ∀ k, (f k).size ≤ 66) (q : Pat) : Bulk.bulk (renF f q) ≤ 15 * Bulk.bulk q := by
 have h1 : Bulk.bulk (renF f q) = Bulk.bulk (renK f 0 q.nodes) + 1 := rfl
 have h2 : Bulk.bulk q = Bulk.bulk q.nodes + 1 := rfl
 have h3 := renK_bulk hf q.nodes 0
 rw [h1, h2, bulk_sumL, bulk_sumL]
 omega
theorem nameD_w (n : Node) (d m : Nat) : nodeW (nameD n d) m ≤ 26 * nodeW n m := by
 have hp : Bulk.bulk (n.pats.map (renF fun k => dnN ((d + k : Nat) : Int))) ≤ 15 * Bulk.bulk n.pats := by
  rw [bulk_sumL, bulk_sumL, List.map_map]
  have : ∀ l : List Pat, (l.map (Bulk.bulk ∘ renF fun k => dnN ((d + k : Nat) : Int))).sum ≤ 15 * (l.map Bulk.bulk).sum := by
   intro l
   induction l with
   | nil => exact Nat.zero_le _
   | cons q r ih =>
    have := renF_bulk (f := fun k => dnN ((d + k : Nat) : Int)) (fun k => dnN_le _) q
    simp only [List.map_cons, List.sum_cons, Function.comp] at ih ⊢
    omega
  have := this n.pats
  omega
 have e : nodeW (nameD n d) m = 6 + (nameD n d).s.size + m + Bulk.bulk (nameD n d).pats := rfl
 have hs : (nameD n d).s.size ≤ n.s.size + 66 := by
  unfold nameD
  have h1 := dnN_le ((d : Int) - 1 - n.n)
  have h2 := dnN_le (d : Int)
  split
  ·split
   ·dsimp only; omega
   ·dsimp only; omega
  ·dsimp only
   split <;> omega
 rw [e, nameD_pats, nodeW]
 omega
theorem namedRs_bulk {n : Node} : ∀ {ks : List Tr}, (∀ k ∈ ks, ∀ d, (namedR k d).bulk ≤ 26 * k.bulk) → ∀ i d, Tr.bulks (namedRs n i ks d) ≤ 26 * Tr.bulks ks
 | [], _, i, d => by rw [namedRs]; exact Nat.zero_le _
 | t :: ts, h, i, d => by
  have h1 := h t (by simp) (underN n i d)
  have h2 := namedRs_bulk (n := n) (ks := ts) (fun k hk => h k (by simp [hk])) (i + 1) d
  rw [namedRs, Tr.bulks, Tr.bulks]; omega
theorem namedR_bulk : ∀ (t : Tr) (d : Nat), (namedR t d).bulk ≤ 26 * t.bulk := Tr.ind fun n ks ih d => by
 have h1 := nameD_w n d ks.length
 have h2 := namedRs_bulk (n := n) ih 0 d
 rw [namedR, Tr.bulk, Tr.bulk, namedRs_len]; omega
theorem backP_bulk {c : Program} (h : treeB (nkids c.nodes) c.nodes.length = true) : Bulk.bulk (backP c) ≤ 26 * Bulk.bulk c := by
 have h1 := layT_bulk (treeAt c.nodes 0) 0
 rw [lay_grow h] at h1
 have h2 := layT_bulk (namedR (treeAt c.nodes 0) 0) 0
 have h3 := namedR_bulk (treeAt c.nodes 0) 0
 have e1 : Bulk.bulk c = Bulk.bulk c.types + Bulk.bulk c.nodes + 1 := rfl
 have e2 : Bulk.bulk (backP c) = Bulk.bulk c.types + Bulk.bulk (layT 0 (namedR (treeAt c.nodes 0) 0)) + 1 := rfl
 omega
def okN (n : Node) (m : Nat) : Prop := (n.kind = 3 → m = 0) ∧ (n.kind = 13 → m = n.pats.length + 1) ∧ 26 * Bulk.bulk n ≤ 4294967296
mutual
def Tr.oks2 : Tr → Prop
 | .mk n ks => okN n ks.length ∧ Tr.oks2s ks
def Tr.oks2s : List Tr → Prop
 | [] => True
 | t :: ts => t.oks2 ∧ Tr.oks2s ts
end
theorem namedRs_ok {n : Node} : ∀ {ks : List Tr}, (∀ k ∈ ks, k.oks2 → ∀ d, (namedR k d).ok) → Tr.oks2s ks → ∀ i d, Tr.oks (namedRs n i ks d)
 | [], _, _, i, d => by rw [namedRs, Tr.oks]; trivial
 | t :: ts, ih, h, i, d => by
  rw [Tr.oks2s] at h
  rw [namedRs, Tr.oks]
  exact ⟨ih t (by simp) h.1 _, namedRs_ok (fun k hk => ih k (by simp [hk])) h.2 _ _⟩
theorem namedR_ok : ∀ (t : Tr), t.oks2 → ∀ d, (namedR t d).ok := Tr.ind fun n ks ih h d => by
 rw [Tr.oks2] at h
 rw [namedR, Tr.ok]
 refine ⟨⟨fun h3 => ?_, fun h13 => ?_, ?_⟩, namedRs_ok ih h.2 0 d⟩
 ·rw [namedRs_len]; exact h.1.1 ((nameD_kind n d).symm.trans h3)
 ·rw [namedRs_len, nameD_pats, List.length_map]; exact h.1.2.1 ((nameD_kind n d).symm.trans h13)
 ·rw [bulk_node, nameD_kids]
  have h1 := nameD_w n d n.kids.length
  rw [← bulk_node] at h1
  have := h.1.2.2
  omega
theorem treeAt_ok2 {l : List Node} (hk : ∀ i, i < l.length → ∀ k ∈ nkids l i, (i : Int) < k ∧ k < l.length) (hn : ∀ n ∈ l, okN n n.kids.length) : ∀ (f i : Nat), i < l.length → l.length - i ≤ f → (growT l f i).oks2
 | 0, i, hi, hf => by omega
 | f + 1, i, hi, hf => by
  rw [growT, Tr.oks2]
  have e : l.getD i default = l[i] := by simp [List.getD_eq_getElem?_getD, hi]
  refine ⟨?_, ?_⟩
  ·rw [List.length_map, nkids, e]; exact hn _ (List.getElem_mem hi)
  ·have hm : ∀ t ∈ (nkids l i).map (fun k => growT l f k.toNat), t.oks2 := fun t ht => by
    obtain ⟨k, hk', rfl⟩ := List.mem_map.1 ht
    have := hk i hi k hk'
    exact treeAt_ok2 hk hn f k.toNat (by omega) (by omega)
   generalize (nkids l i).map (fun k => growT l f k.toNat) = L at hm
   induction L with
   | nil => rw [Tr.oks2s]; trivial
   | cons t L ih => rw [Tr.oks2s]; exact ⟨hm t (by simp), ih fun x hx => hm x (by simp [hx])⟩
theorem e3_of : ∀ t : Tr, t.all (fun n => n.kind = 3 → n.pats = []) → t.e3 := Tr.ind fun n ks ih h => by
 rw [Tr.all] at h
 rw [Tr.e3]
 refine ⟨h.1, ?_⟩
 have h2 := h.2
 clear h
 induction ks with
 | nil => rw [Tr.e3s]; trivial
 | cons t ts ih2 =>
  rw [Tr.alls] at h2
  rw [Tr.e3s]
  exact ⟨ih t (by simp) h2.1, ih2 (fun k hk => ih k (by simp [hk])) h2.2⟩
theorem pne_of2 : ∀ t : Tr, t.all (fun n => ∀ q ∈ n.pats, q.nodes ≠ []) → t.pne := Tr.ind fun n ks ih h => by
 rw [Tr.all] at h
 rw [Tr.pne]
 refine ⟨h.1, ?_⟩
 have h2 := h.2
 clear h
 induction ks with
 | nil => rw [Tr.pnes]; trivial
 | cons t ts ih2 =>
  rw [Tr.alls] at h2
  rw [Tr.pnes]
  exact ⟨ih t (by simp) h2.1, ih2 (fun k hk => ih k (by simp [hk])) h2.2⟩
end Go.Proofs.YtjifpdcflankpaaGreat

namespace Go.Proofs.YtjifpdcflankpaaGreat
open Go.RowKit Go.Proofs.YtjifpdcflankpaaGreat.Av Go.Proofs.YtjifpdcflankpaaGreat.Ml
open Go.Proofs.YtjifpdcflankpaaGreat.Av.AVal (av)

def eqF {α : Type} (p : α → α → Bool) : List α → List α → Bool
 | [], [] => true
 | a :: l, b :: m => p a b && eqF p l m
 | _, _ => false
theorem eqF_len {α : Type} {p : α → α → Bool} : ∀ {l m : List α}, l.length ≠ m.length → eqF p l m = false
 | [], [], h => absurd rfl h
 | [], b :: m, _ => rfl
 | a :: l, [], _ => rfl
 | a :: l, b :: m, h => by rw [eqF, eqF_len (fun e => h (by simp [e])), Bool.and_false]
theorem eqF_step {α : Type} {p : α → α → Bool} (l m : List α) (k : Nat) (h : k < l.length) (h2 : k < m.length) : eqF p (l.drop k) (m.drop k) = (p l[k] m[k] && eqF p (l.drop (k + 1)) (m.drop (k + 1))) := by
 rw [List.drop_eq_getElem_cons h, List.drop_eq_getElem_cons h2, eqF]
theorem eqF_dec {α β : Type} [DecidableEq β] {p : α → α → Bool} {f : α → β} (hp : ∀ x y, p x y = decide (f x = f y)) : ∀ l m : List α, eqF p l m = decide (l.map f = m.map f)
 | [], [] => by simp [eqF]
 | [], b :: m => by simp [eqF]
 | a :: l, [] => by simp [eqF]
 | a :: l, b :: m => by rw [eqF, hp, eqF_dec hp l m]; simp [Bool.decide_and]
theorem eqF_eq {α : Type} [DecidableEq α] (l m : List α) : eqF (fun x y => decide (x = y)) l m = decide (l = m) := by
 have h := eqF_dec (f := id) (p := fun x y : α => decide (x = y)) (fun _ _ => rfl) l m
 rwa [List.map_id, List.map_id] at h
theorem EqualInt_ok (l m : List Int) (hl : l.length ≤ 4503599627370496) (hm : m.length ≤ 4503599627370496) : CallsF Tryz.prog 98 [.sl (l.map av), .sl (m.map av)] (.bool (decide (l = m))) := by
 refine ir_slices_Equal_int_int.F rfl (by simp; exact ⟨lav_clean l, lav_clean m⟩) (AvPure.bool _) ?_
 by_cases hne2 : l.length = m.length
 ·simp +contextual -dsimp (maxSteps := 2000000) only [↓SD, SU, SB, simprocAttr, ir_slices_Equal_int_int, map_len, hne2]
  refine aLoop_of (X := Nat) (fun k => ⟨[(0, .sl (l.map av)), (1, .sl (m.map av)), (12, .int .i64 m.length), (13, .int .i64 k)], []⟩) (fun k => k ≤ l.length ∧ l.take k = m.take k) (fun k => l.length - k) 0 ⟨Nat.zero_le _, rfl⟩ (by simp +contextual -dsimp only [↓SD, SU, SB, simprocAttr]) trivial ?_
  intro k ⟨hk, hp⟩
  by_cases hlt : k < l.length
  ·have e1 := getD_map av l k .top hlt
   have hlt2 : k < m.length := by omega
   have e2 := getD_map av m k .top hlt2
   have hst : l[k] = m[k] → l.take (k + 1) = m.take (k + 1) := fun e => by rw [List.take_succ_eq_append_getElem hlt, List.take_succ_eq_append_getElem hlt2, hp, e]
   have hno : l[k] ≠ m[k] → decide (l = m) = false := fun e => decide_eq_false fun h => e (by simp only [h])
   generalize l[k] = a at *
   generalize m[k] = b at *
   by_cases hab : a = b
   ·subst hab
    simp +contextual -dsimp (maxSteps := 2000000) only [↓SD, SU, SB, simprocAttr, map_len, hlt, hlt2, e1, e2, av_int]
    exact ⟨by omega, Goes.le ⟨k + 1, ⟨⟨hlt, hst rfl⟩, (by first | omega | (simp only; omega))⟩, rfl⟩ (by simp +contextual -dsimp only [↓SD, SU, SB, simprocAttr, Int.natCast_add]) trivial⟩
   ·simp +contextual -dsimp (maxSteps := 2000000) only [↓SD, SU, SB, simprocAttr, map_len, hlt, hlt2, e1, e2, av_int, hab, hno hab]
  ·obtain rfl : k = l.length := by omega
   rw [List.take_length, hne2, List.take_length] at hp
   simp +contextual -dsimp (maxSteps := 2000000) only [↓SD, SU, SB, simprocAttr, map_len, hne2, Nat.lt_irrefl, hp, decide_true]
 ·have hne3 : decide (l = m) = false := decide_eq_false fun h => hne2 (by rw [h])
  simp +contextual -dsimp (maxSteps := 2000000) only [↓SD, SU, SB, simprocAttr, ir_slices_Equal_int_int, map_len, hne2, hne3]
theorem EqualFunc_Node_ok (l m : List Node) (g : FuncId) (p : Node → Node → Bool) (hl : l.length ≤ 1099511627776) (hm : m.length ≤ 1099511627776) (hg : ∀ x ∈ l, ∀ y ∈ m, CallsF Tryz.prog g [av x, av y] (.bool (p x y))) :
  CallsF Tryz.prog 96 [.sl (l.map av), .sl (m.map av), .fn g []] (.bool (eqF p l m)) := by
 refine ir_slices_EqualFunc_impl_Node_impl_Node_impl_Node_impl_Node.F rfl (by simp; exact ⟨lav_clean l, lav_clean m, AvPure.fn (by simp)⟩) (AvPure.bool _) ?_
 by_cases hne2 : l.length = m.length
 ·simp +contextual -dsimp (maxSteps := 2000000) only [↓SD, SU, SB, simprocAttr, ir_slices_EqualFunc_impl_Node_impl_Node_impl_Node_impl_Node, map_len, hne2, List.map_nil]
  refine aLoop_of (X := Nat) (fun k => ⟨[(1, .sl (m.map av)), (2, .fn g []), (15, .sl (l.map av)), (16, .int .i64 m.length), (17, .int .i64 k)], []⟩) (fun k => k ≤ l.length ∧ eqF p l m = eqF p (l.drop k) (m.drop k)) (fun k => l.length - k) 0 ⟨Nat.zero_le _, rfl⟩ (by simp +contextual -dsimp only [↓SD, SU, SB, simprocAttr, List.map_nil]) trivial ?_
  intro k ⟨hk, hp⟩
  by_cases hlt : k < l.length
  ·have e1 := getD_map av l k .top hlt
   have hlt2 : k < m.length := by omega
   have e2 := getD_map av m k .top hlt2
   have C := hg l[k] (List.getElem_mem hlt) m[k] (List.getElem_mem hlt2)
   rw [eqF_step l m k hlt hlt2] at hp
   generalize l[k] = a at *
   generalize m[k] = b at *
   rw [av_Node] at e1 e2
   rw [av_Node, av_Node] at C
   simp +contextual -dsimp (maxSteps := 2000000) only [↓SD, SU, SB, simprocAttr, map_len, hlt, hlt2, e1, e2, av_Node, List.map_nil, List.append_nil]
   intro u w
   refine aCallK_of _ C ?_
   cases hb : p a b with
   | true =>
    rw [hb, Bool.true_and] at hp
    simp +contextual -dsimp (maxSteps := 2000000) only [↓SD, SU, SB, simprocAttr, List.map_nil]
    exact ⟨by omega, Goes.le ⟨k + 1, ⟨⟨hlt, hp⟩, (by first | omega | (simp only; omega))⟩, rfl⟩ (by simp +contextual -dsimp only [↓SD, SU, SB, simprocAttr, Int.natCast_add, List.map_nil]) trivial⟩
   | false =>
    rw [hb, Bool.false_and] at hp
    simp +contextual -dsimp (maxSteps := 2000000) only [↓SD, SU, SB, simprocAttr, hp, List.map_nil]
  ·obtain rfl : k = l.length := by omega
   rw [List.drop_length, hne2, List.drop_length] at hp
   simp +contextual -dsimp (maxSteps := 2000000) only [↓SD, SU, SB, simprocAttr, map_len, hne2, Nat.lt_irrefl, hp, eqF]
 ·have hne3 : eqF p l m = false := eqF_len (by omega)
  simp +contextual -dsimp (maxSteps := 2000000) only [↓SD, SU, SB, simprocAttr, ir_slices_EqualFunc_impl_Node_impl_Node_impl_Node_impl_Node, map_len, hne2, hne3]
theorem EqualFunc_Pat_ok (l m : List Pat) (g : FuncId) (p : Pat → Pat → Bool) (hl : l.length ≤ 1099511627776) (hm : m.length ≤ 1099511627776) (hg : ∀ x ∈ l, ∀ y ∈ m, CallsF Tryz.prog g [av x, av y] (.bool (p x y))) :
  CallsF Tryz.prog 99 [.sl (l.map av), .sl (m.map av), .fn g []] (.bool (eqF p l m)) := by
 refine ir_slices_EqualFunc_impl_Pat_impl_Pat_impl_Pat_impl_Pat.F rfl (by simp; exact ⟨lav_clean l, lav_clean m, AvPure.fn (by simp)⟩) (AvPure.bool _) ?_
 by_cases hne2 : l.length = m.length
 ·simp +contextual -dsimp (maxSteps := 2000000) only [↓SD, SU, SB, simprocAttr, ir_slices_EqualFunc_impl_Pat_impl_Pat_impl_Pat_impl_Pat, map_len, hne2, List.map_nil]
  refine aLoop_of (X := Nat) (fun k => ⟨[(1, .sl (m.map av)), (2, .fn g []), (15, .sl (l.map av)), (16, .int .i64 m.length), (17, .int .i64 k)], []⟩) (fun k => k ≤ l.length ∧ eqF p l m = eqF p (l.drop k) (m.drop k)) (fun k => l.length - k) 0 ⟨Nat.zero_le _, rfl⟩ (by simp +contextual -dsimp only [↓SD, SU, SB, simprocAttr, List.map_nil]) trivial ?_
  intro k ⟨hk, hp⟩
  by_cases hlt : k < l.length
  ·have e1 := getD_map av l k .top hlt
   have hlt2 : k < m.length := by omega
   have e2 := getD_map av m k .top hlt2
   have C := hg l[k] (List.getElem_mem hlt) m[k] (List.getElem_mem hlt2)
   rw [eqF_step l m k hlt hlt2] at hp
   generalize l[k] = a at *
   generalize m[k] = b at *
   rw [av_Pat] at e1 e2
   rw [av_Pat, av_Pat] at C
   simp +contextual -dsimp (maxSteps := 2000000) only [↓SD, SU, SB, simprocAttr, map_len, hlt, hlt2, e1, e2, av_Pat, List.map_nil, List.append_nil]
   intro u w
   refine aCallK_of _ C ?_
   cases hb : p a b with
   | true =>
    rw [hb, Bool.true_and] at hp
    simp +contextual -dsimp (maxSteps := 2000000) only [↓SD, SU, SB, simprocAttr, List.map_nil]
    exact ⟨by omega, Goes.le ⟨k + 1, ⟨⟨hlt, hp⟩, (by first | omega | (simp only; omega))⟩, rfl⟩ (by simp +contextual -dsimp only [↓SD, SU, SB, simprocAttr, Int.natCast_add, List.map_nil]) trivial⟩
   | false =>
    rw [hb, Bool.false_and] at hp
    simp +contextual -dsimp (maxSteps := 2000000) only [↓SD, SU, SB, simprocAttr, hp, List.map_nil]
  ·obtain rfl : k = l.length := by omega
   rw [List.drop_length, hne2, List.drop_length] at hp
   simp +contextual -dsimp (maxSteps := 2000000) only [↓SD, SU, SB, simprocAttr, map_len, hne2, Nat.lt_irrefl, hp, eqF]
 ·have hne3 : eqF p l m = false := eqF_len (by omega)
  simp +contextual -dsimp (maxSteps := 2000000) only [↓SD, SU, SB, simprocAttr, ir_slices_EqualFunc_impl_Pat_impl_Pat_impl_Pat_impl_Pat, map_len, hne2, hne3]
theorem EqualFunc_PNode_ok (l m : List PNode) (g : FuncId) (p : PNode → PNode → Bool) (hl : l.length ≤ 1099511627776) (hm : m.length ≤ 1099511627776) (hg : ∀ x ∈ l, ∀ y ∈ m, CallsF Tryz.prog g [av x, av y] (.bool (p x y))) :
  CallsF Tryz.prog 147 [.sl (l.map av), .sl (m.map av), .fn g []] (.bool (eqF p l m)) := by
 refine ir_slices_EqualFunc_impl_PNode_impl_PNode_impl_PNode_impl_PNode.F rfl (by simp; exact ⟨lav_clean l, lav_clean m, AvPure.fn (by simp)⟩) (AvPure.bool _) ?_
 by_cases hne2 : l.length = m.length
 ·simp +contextual -dsimp (maxSteps := 2000000) only [↓SD, SU, SB, simprocAttr, ir_slices_EqualFunc_impl_PNode_impl_PNode_impl_PNode_impl_PNode, map_len, hne2, List.map_nil]
  refine aLoop_of (X := Nat) (fun k => ⟨[(1, .sl (m.map av)), (2, .fn g []), (15, .sl (l.map av)), (16, .int .i64 m.length), (17, .int .i64 k)], []⟩) (fun k => k ≤ l.length ∧ eqF p l m = eqF p (l.drop k) (m.drop k)) (fun k => l.length - k) 0 ⟨Nat.zero_le _, rfl⟩ (by simp +contextual -dsimp only [↓SD, SU, SB, simprocAttr, List.map_nil]) trivial ?_
  intro k ⟨hk, hp⟩
  by_cases hlt : k < l.length
  ·have e1 := getD_map av l k .top hlt
   have hlt2 : k < m.length := by omega
   have e2 := getD_map av m k .top hlt2
   have C := hg l[k] (List.getElem_mem hlt) m[k] (List.getElem_mem hlt2)
   rw [eqF_step l m k hlt hlt2] at hp
   generalize l[k] = a at *
   generalize m[k] = b at *
   rw [av_PNode] at e1 e2
   rw [av_PNode, av_PNode] at C
   simp +contextual -dsimp (maxSteps := 2000000) only [↓SD, SU, SB, simprocAttr, map_len, hlt, hlt2, e1, e2, av_PNode, List.map_nil, List.append_nil]
   intro u w
   refine aCallK_of _ C ?_
   cases hb : p a b with
   | true =>
    rw [hb, Bool.true_and] at hp
    simp +contextual -dsimp (maxSteps := 2000000) only [↓SD, SU, SB, simprocAttr, List.map_nil]
    exact ⟨by omega, Goes.le ⟨k + 1, ⟨⟨hlt, hp⟩, (by first | omega | (simp only; omega))⟩, rfl⟩ (by simp +contextual -dsimp only [↓SD, SU, SB, simprocAttr, Int.natCast_add, List.map_nil]) trivial⟩
   | false =>
    rw [hb, Bool.false_and] at hp
    simp +contextual -dsimp (maxSteps := 2000000) only [↓SD, SU, SB, simprocAttr, hp, List.map_nil]
  ·obtain rfl : k = l.length := by omega
   rw [List.drop_length, hne2, List.drop_length] at hp
   simp +contextual -dsimp (maxSteps := 2000000) only [↓SD, SU, SB, simprocAttr, map_len, hne2, Nat.lt_irrefl, hp, eqF]
 ·have hne3 : eqF p l m = false := eqF_len (by omega)
  simp +contextual -dsimp (maxSteps := 2000000) only [↓SD, SU, SB, simprocAttr, ir_slices_EqualFunc_impl_PNode_impl_PNode_impl_PNode_impl_PNode, map_len, hne2, hne3]
theorem samePat1_ok (x y : PNode) (hx : x.kids.length ≤ 1099511627776) (hy : y.kids.length ≤ 1099511627776) : CallsF Tryz.prog 148 [av x, av y] (.bool (decide (x = y))) := by
 refine ir_impl_samePat_1.F rfl (by simp; exact ⟨AVal.clean x, AVal.clean y⟩) (AvPure.bool _) ?_
 have C := EqualInt_ok x.kids y.kids (by omega) (by omega)
 obtain ⟨a, b, c, d⟩ := x
 obtain ⟨a', b', c', d'⟩ := y
 simp only at C
 simp +contextual -dsimp (maxSteps := 2000000) only [↓SD, SU, SB, simprocAttr, ir_impl_samePat_1, av_PNode]
 by_cases h1 : a = a'
 ·by_cases h2 : b = b'
  ·by_cases h3 : c = c'
   ·subst h1 h2 h3
    simp +contextual -dsimp (maxSteps := 2000000) only [↓SD, SU, SB, simprocAttr]
    refine aCallK_of _ C ?_
    simp +contextual -dsimp (maxSteps := 2000000) only [↓SD, SU, SB, simprocAttr]
    simp
   ·simp +contextual -dsimp (maxSteps := 2000000) only [↓SD, SU, SB, simprocAttr, h1, h2, h3]
    simp [h3]
  ·simp +contextual -dsimp (maxSteps := 2000000) only [↓SD, SU, SB, simprocAttr, h1, h2]
   simp [h2]
 ·simp +contextual -dsimp (maxSteps := 2000000) only [↓SD, SU, SB, simprocAttr, h1]
  simp [h1]
theorem samePat_ok (x y : Pat) (hx : Bulk.bulk x ≤ 4294967296) (hy : Bulk.bulk y ≤ 4294967296) : CallsF Tryz.prog 100 [av x, av y] (.bool (decide (x = y))) := by
 refine ir_impl_samePat.F rfl (by simp; exact ⟨AVal.clean x, AVal.clean y⟩) (AvPure.bool _) ?_
 obtain ⟨l⟩ := x
 obtain ⟨m⟩ := y
 have hxb : Bulk.bulk l + 1 ≤ 4294967296 := hx
 have hyb : Bulk.bulk m + 1 ≤ 4294967296 := hy
 have hl := bulk_length l
 have hm := bulk_length m
 have hk : ∀ {l : List PNode}, Bulk.bulk l ≤ 4294967296 → ∀ x ∈ l, x.kids.length ≤ 1099511627776 := fun {l} h x hx => by
  have h1 := bulk_mem hx
  have h2 : Bulk.bulk x = Bulk.bulk x.kind + Bulk.bulk x.n + (x.s.size + 1) + Bulk.bulk x.kids + 1 := rfl
  have h3 := bulk_length x.kids
  omega
 have C := EqualFunc_PNode_ok l m 148 (fun x y => decide (x = y)) (by omega) (by omega) fun x hx y hy => samePat1_ok x y (hk (by omega) x hx) (hk (by omega) y hy)
 rw [eqF_eq] at C
 simp +contextual -dsimp (maxSteps := 2000000) only [↓SD, SU, SB, simprocAttr, ir_impl_samePat, av_Pat]
 refine aCallK_of _ C ?_
 simp +contextual -dsimp (maxSteps := 2000000) only [↓SD, SU, SB, simprocAttr]
 simp
theorem sameNodes1_ok (x y : Node) (hx : Bulk.bulk x ≤ 4294967296) (hy : Bulk.bulk y ≤ 4294967296) : CallsF Tryz.prog 97 [av x, av y] (.bool (decide (zpN x = zpN y))) := by
 refine ir_impl_sameNodes_1.F rfl (by simp; exact ⟨AVal.clean x, AVal.clean y⟩) (AvPure.bool _) ?_
 have hb : ∀ {x : Node}, Bulk.bulk x ≤ 4294967296 → x.kids.length ≤ 1099511627776 ∧ x.pats.length ≤ 1099511627776 ∧ ∀ q ∈ x.pats, Bulk.bulk q ≤ 4294967296 := fun {x} h => by
  have h2 : Bulk.bulk x = Bulk.bulk x.kind + Bulk.bulk x.pos + Bulk.bulk x.n + Bulk.bulk x.s + Bulk.bulk x.kids + Bulk.bulk x.pats + 1 := rfl
  have h3 := bulk_length x.kids
  have h4 := bulk_length x.pats
  exact ⟨by omega, by omega, fun q hq => by have := bulk_mem hq; omega⟩
 have C := EqualInt_ok x.kids y.kids (by have := hb hx; omega) (by have := hb hy; omega)
 have D := EqualFunc_Pat_ok x.pats y.pats 100 (fun x y => decide (x = y)) (hb hx).2.1 (hb hy).2.1 fun p hp q hq => samePat_ok p q ((hb hx).2.2 p hp) ((hb hy).2.2 q hq)
 rw [eqF_eq] at D
 clear hb hx hy
 obtain ⟨a, p, b, c, d, e⟩ := x
 obtain ⟨a', p', b', c', d', e'⟩ := y
 simp only at C D
 simp +contextual -dsimp (maxSteps := 2000000) only [↓SD, SU, SB, simprocAttr, ir_impl_sameNodes_1, av_Node]
 by_cases h1 : a = a'
 ·by_cases h2 : b = b'
  ·by_cases h3 : c = c'
   ·subst h1 h2 h3
    simp +contextual -dsimp (maxSteps := 2000000) only [↓SD, SU, SB, simprocAttr, List.map_nil]
    refine aCallK_of _ C ?_
    by_cases h4 : d = d'
    ·subst h4
     simp +contextual -dsimp (maxSteps := 2000000) only [↓SD, SU, SB, simprocAttr, List.map_nil]
     refine aCallK_of _ D ?_
     simp +contextual -dsimp (maxSteps := 2000000) only [↓SD, SU, SB, simprocAttr]
     simp [zpN]
    ·simp +contextual -dsimp (maxSteps := 2000000) only [↓SD, SU, SB, simprocAttr, h4]
     simp [zpN, h4]
   ·simp +contextual -dsimp (maxSteps := 2000000) only [↓SD, SU, SB, simprocAttr, h1, h2, h3]
    simp [zpN, h3]
  ·simp +contextual -dsimp (maxSteps := 2000000) only [↓SD, SU, SB, simprocAttr, h1, h2]
   simp [zpN, h2]
 ·simp +contextual -dsimp (maxSteps := 2000000) only [↓SD, SU, SB, simprocAttr, h1]
  simp [zpN, h1]
theorem sameNodes_ok (l m : List Node) (hx : Bulk.bulk l ≤ 4294967296) (hy : Bulk.bulk m ≤ 4294967296) : CallsF Tryz.prog 43 [.sl (l.map av), .sl (m.map av)] (.bool (decide (l.map zpN = m.map zpN))) := by
 refine ir_impl_sameNodes.F rfl (by simp; exact ⟨lav_clean l, lav_clean m⟩) (AvPure.bool _) ?_
 have hl := bulk_length l
 have hm := bulk_length m
 have C := EqualFunc_Node_ok l m 97 (fun x y => decide (zpN x = zpN y)) (by omega) (by omega) fun x hx' y hy' => sameNodes1_ok x y (by have := bulk_mem hx'; omega) (by have := bulk_mem hy'; omega)
 rw [eqF_dec (f := zpN) (fun x y => rfl)] at C
 simp +contextual -dsimp (maxSteps := 2000000) only [↓SD, SU, SB, simprocAttr, ir_impl_sameNodes]
 refine aCallK_of _ C ?_
 simp +contextual -dsimp (maxSteps := 2000000) only [↓SD, SU, SB, simprocAttr]
end Go.Proofs.YtjifpdcflankpaaGreat

namespace Go.Proofs.YtjifpdcflankpaaGreat.Av
open Go.RowKit
end Go.Proofs.YtjifpdcflankpaaGreat.Av
namespace Go.Proofs.YtjifpdcflankpaaGreat
open Go.RowKit Go.Proofs.YtjifpdcflankpaaGreat.Av Go.Proofs.YtjifpdcflankpaaGreat.Ml
open Go.Proofs.YtjifpdcflankpaaGreat.Av.AVal (av)
open OVal (ov oh on)

theorem fromCore1_ok (n : Node) : CallsF Tryz.prog 83 [av n] (.bool (nameC n)) := by
 refine ir_impl_fromCore_1.F rfl (by simp; exact AVal.clean n) (AvPure.bool _) ?_
 have e : nameC n = if n.kind = 3 then decide (n.s = bs []) || decide (n.n = 0) else decide (n.s = bs [120]) := rfl
 rw [e]
 by_cases h3 : n.kind = 3
 ·by_cases hs : n.s = bs []
  ·simp +contextual -dsimp (maxSteps := 2000000) only [↓SD, SU, SB, simprocAttr, ir_impl_fromCore_1, av_Node, h3, hs, decide_true, Bool.true_or]
  ·simp +contextual -dsimp (maxSteps := 2000000) only [↓SD, SU, SB, simprocAttr, ir_impl_fromCore_1, av_Node, h3, hs, decide_false, Bool.false_or]
 ·simp +contextual -dsimp (maxSteps := 2000000) only [↓SD, SU, SB, simprocAttr, ir_impl_fromCore_1, av_Node, h3]
theorem fromCore2_ok (n : Node) : CallsF Tryz.prog 85 [av n] (.bool (!decide (n.pos = 0))) := by
 refine ir_impl_fromCore_2.F rfl (by simp; exact AVal.clean n) (AvPure.bool _) ?_
 simp +contextual -dsimp (maxSteps := 2000000) only [↓SD, SU, SB, simprocAttr, ir_impl_fromCore_2, av_Node]
end Go.Proofs.YtjifpdcflankpaaGreat
