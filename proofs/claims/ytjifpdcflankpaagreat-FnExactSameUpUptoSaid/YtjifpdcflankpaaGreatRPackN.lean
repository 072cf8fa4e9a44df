/-
 THE GROUND OF DATA, in one text. Conditions: none.
-/
import Derived.Test.YtjifpdcflankpaaGreatRPackM
import Derived.Test.YtjifpdcflankpaaGreatRPackO
import Derived.Test.YtjifpdcflankpaaGreatRIrC
import Derived.Test.YtjifpdcflankpaaGreatRPackR
import Derived.Test.YtjifpdcflankpaaGreatRPackT
import Derived.Test.YtjifpdcflankpaaGreatRPackC
import Derived.Test.YtjifpdcflankpaaGreatRPackP
import Derived.Test.YtjifpdcflankpaaGreatRPackV
import Derived.Test.YtjifpdcflankpaaGreatRPackG

set_option linter.unusedVariables false
set_option linter.unusedSimpArgs false
set_option maxRecDepth 100000
namespace Go.Proofs.YtjifpdcflankpaaGreat
open Go.RowKit Go.Proofs.YtjifpdcflankpaaGreat.Av Go.Proofs.YtjifpdcflankpaaGreat.Ml
open Go.Proofs.YtjifpdcflankpaaGreat.Av.AVal (av)
open OVal (ov oh on)

def RowP (nm : Nat) (ty : TypeId) (esz : Nat) (es : List AV) (r : AV) (hp' : Hp) : Prop := ∃ v, r = .row nm v es.length ∧ hp' = [(nm, ⟨v, false, ty, esz, es⟩)]
theorem CloneIntR_ok (nm : Nat) (l : List Int) (hl : l.length ≤ 4294967296) : CallsH Tryz.prog 168 [.sl (l.map av)] [] (RowP nm 3 1 (l.map av)) := by
 refine ir_slices_Clone_int_int_O.H rfl ?_
 simp +contextual -dsimp (maxSteps := 2000000) only [↓SD, SU, SB, simprocAttr, ir_slices_Clone_int_int_O, map_len]
 refine ⟨fun h => ?_, fun v => ⟨⟨?_, by omega, by unfold maxLen; omega⟩, fun u => ?_⟩⟩
 ·refine Goes.new 2 nm 3 1 rfl fun u => ?_
  have hl0 : l = [] := by simpa using h
  subst hl0
  refine Goes.post [(nm, ⟨u, false, 3, 1, []⟩)] ?_
  simp +contextual -dsimp (maxSteps := 2000000) only [↓SD, SU, SB, simprocAttr]
  exact ⟨u, rfl, rfl⟩
 ·rintro y hy
  rw [map_nop] at hy
  obtain ⟨x, _, rfl⟩ := List.mem_map.1 hy
  exact AVal.len x
 ·rw [map_nop]
  refine Goes.ren 2 5 nm (v := u) (n := l.length) rfl hg_eq rfl fun v' => ?_
  refine Goes.post [(nm, ⟨v', false, 3, 1, l.map av⟩)] ?_
  simp +contextual -dsimp (maxSteps := 2000000) only [↓SD, SU, SB, simprocAttr, false_and]
  exact ⟨v', by rw [List.length_map], rfl⟩
theorem CloneTyItemR_ok (nm : Nat) (l : List TyItem) (hl : l.length ≤ 4294967296) : CallsH Tryz.prog 132 [.sl (l.map av)] [] (RowP nm 128 3 (l.map av)) := by
 refine ir_slices_Clone_impl_TyItem_impl_TyItem.H rfl ?_
 simp +contextual -dsimp (maxSteps := 2000000) only [↓SD, SU, SB, simprocAttr, ir_slices_Clone_impl_TyItem_impl_TyItem, map_len]
 refine ⟨fun h => ?_, fun v => ⟨⟨?_, by omega, by unfold maxLen; omega⟩, fun u => ?_⟩⟩
 ·refine Goes.new 2 nm 128 3 rfl fun u => ?_
  have hl0 : l = [] := by simpa using h
  subst hl0
  refine Goes.post [(nm, ⟨u, false, 128, 3, []⟩)] ?_
  simp +contextual -dsimp (maxSteps := 2000000) only [↓SD, SU, SB, simprocAttr]
  exact ⟨u, rfl, rfl⟩
 ·rintro y hy
  rw [map_nop] at hy
  obtain ⟨x, _, rfl⟩ := List.mem_map.1 hy
  exact AVal.len x
 ·rw [map_nop]
  refine Goes.ren 2 5 nm (v := u) (n := l.length) rfl hg_eq rfl fun v' => ?_
  refine Goes.post [(nm, ⟨v', false, 128, 3, l.map av⟩)] ?_
  simp +contextual -dsimp (maxSteps := 2000000) only [↓SD, SU, SB, simprocAttr, false_and]
  exact ⟨v', by rw [List.length_map], rfl⟩
theorem ClonePNodeR_ok (nm : Nat) (l : List PNode) (hl : l.length ≤ 4294967296) : CallsH Tryz.prog 167 [.sl (l.map av)] [] (RowP nm 94 4 (l.map av)) := by
 refine ir_slices_Clone_impl_PNode_impl_PNode_O.H rfl ?_
 simp +contextual -dsimp (maxSteps := 2000000) only [↓SD, SU, SB, simprocAttr, ir_slices_Clone_impl_PNode_impl_PNode_O, map_len]
 refine ⟨fun h => ?_, fun v => ⟨⟨?_, by omega, by unfold maxLen; omega⟩, fun u => ?_⟩⟩
 ·refine Goes.new 2 nm 94 4 rfl fun u => ?_
  have hl0 : l = [] := by simpa using h
  subst hl0
  refine Goes.post [(nm, ⟨u, false, 94, 4, []⟩)] ?_
  simp +contextual -dsimp (maxSteps := 2000000) only [↓SD, SU, SB, simprocAttr]
  exact ⟨u, rfl, rfl⟩
 ·rintro y hy
  rw [map_nop] at hy
  obtain ⟨x, _, rfl⟩ := List.mem_map.1 hy
  exact AVal.len x
 ·rw [map_nop]
  refine Goes.ren 2 5 nm (v := u) (n := l.length) rfl hg_eq rfl fun v' => ?_
  refine Goes.post [(nm, ⟨v', false, 94, 4, l.map av⟩)] ?_
  simp +contextual -dsimp (maxSteps := 2000000) only [↓SD, SU, SB, simprocAttr, false_and]
  exact ⟨v', by rw [List.length_map], rfl⟩
theorem CloneConR_ok (nm : Nat) (l : List Con) (hl : l.length ≤ 4294967296) : CallsH Tryz.prog 131 [.sl (l.map av)] [] (RowP nm 80 3 (l.map av)) := by
 refine ir_slices_Clone_impl_Con_impl_Con.H rfl ?_
 simp +contextual -dsimp (maxSteps := 2000000) only [↓SD, SU, SB, simprocAttr, ir_slices_Clone_impl_Con_impl_Con, map_len]
 refine ⟨fun h => ?_, fun v => ⟨⟨?_, by omega, by unfold maxLen; omega⟩, fun u => ?_⟩⟩
 ·refine Goes.new 2 nm 80 3 rfl fun u => ?_
  have hl0 : l = [] := by simpa using h
  subst hl0
  refine Goes.post [(nm, ⟨u, false, 80, 3, []⟩)] ?_
  simp +contextual -dsimp (maxSteps := 2000000) only [↓SD, SU, SB, simprocAttr]
  exact ⟨u, rfl, rfl⟩
 ·rintro y hy
  rw [map_nop] at hy
  obtain ⟨x, _, rfl⟩ := List.mem_map.1 hy
  exact AVal.len x
 ·rw [map_nop]
  refine Goes.ren 2 5 nm (v := u) (n := l.length) rfl hg_eq rfl fun v' => ?_
  refine Goes.post [(nm, ⟨v', false, 80, 3, l.map av⟩)] ?_
  simp +contextual -dsimp (maxSteps := 2000000) only [↓SD, SU, SB, simprocAttr, false_and]
  exact ⟨v', by rw [List.length_map], rfl⟩
theorem callsH_weak {P : Go.Program} {f : FuncId} {args : List AV} {hp : Hp} {Post Post2 : AV → Hp → Prop} (h : CallsH P f args hp Post) (hg : ∀ r hp', Post r hp' → Post2 r hp') : CallsH P f args hp Post2 :=
 callsH_goes h fun r hp' hr => Goes.here (hg r hp' hr)
theorem oh_tyitems (nm : Nat) (vs : Nat → Nat) (l : List TyItem) : oh nm vs l = [(nm, ⟨vs nm, false, 128, 3, l.map av⟩)] := oh_flat (fun _ _ _ => rfl) (fun _ _ _ => rfl) nm vs l
theorem CloneIntO_ok (nm : Nat) (l : List Int) (hl : l.length ≤ 4294967296) : CallsH Tryz.prog 168 [.sl (l.map av)] [] (ToPost nm l) := by
 refine callsH_weak (CloneIntR_ok nm l hl) ?_
 rintro r hp' ⟨v, rfl, rfl⟩
 exact ⟨fun _ => v, by rw [ov_list, List.length_map], by rw [oh_ints]⟩
theorem CloneTyItemO_ok (nm : Nat) (l : List TyItem) (hl : l.length ≤ 4294967296) : CallsH Tryz.prog 132 [.sl (l.map av)] [] (ToPost nm l) := by
 refine callsH_weak (CloneTyItemR_ok nm l hl) ?_
 rintro r hp' ⟨v, rfl, rfl⟩
 exact ⟨fun _ => v, by rw [ov_list, List.length_map], by rw [oh_tyitems]⟩
def mixO {α : Type} [AVal α] [OVal α] (nm : Nat) (vs : Nat → Nat) (l : List α) (k : Nat) : List AV := ovL nm vs 0 (l.take k) ++ (l.drop k).map av
section
variable {α : Type} [AVal α] [OVal α]
theorem mixO_zero (nm : Nat) (vs : Nat → Nat) (l : List α) : mixO nm vs l 0 = l.map av := rfl
theorem mixO_all (nm : Nat) (vs : Nat → Nat) (l : List α) : mixO nm vs l l.length = ovL nm vs 0 l := by simp [mixO]
theorem mixO_len {nm : Nat} {vs : Nat → Nat} {l : List α} {k : Nat} (h : k ≤ l.length) : (mixO nm vs l k).length = l.length := by simp [mixO, ovL_len]; omega
theorem mixO_get {nm : Nat} {vs : Nat → Nat} {l : List α} {k : Nat} (h : k < l.length) (d : AV) : (mixO nm vs l k).getD k d = av l[k] := by
 have hk : (ovL nm vs 0 (l.take k)).length = k := by simp [ovL_len]; omega
 simp only [mixO, List.getD_eq_getElem?_getD]
 rw [List.getElem?_append_right (by omega), hk, Nat.sub_self, List.drop_eq_getElem_cons h]
 rfl
theorem mixO_set {nm : Nat} {vs vs' : Nat → Nat} {l : List α} {k : Nat} (h : k < l.length) : (mixO nm vs' l k).set k (ov (sub nm k) vs l[k]) = mixO nm (glue (sub nm k) vs vs') l (k + 1) := by
 have hk : (ovL nm vs' 0 (l.take k)).length = k := by simp [ovL_len]; omega
 have ht : (l.take k).length = k := by simp; omega
 simp only [mixO]
 rw [List.set_append_right _ _ (by omega), hk, Nat.sub_self, List.drop_eq_getElem_cons h, List.map_cons, List.set_cons_zero, List.take_succ_eq_append_getElem h, ovL_app, ht, Nat.zero_add, (ovL_glue' vs vs' 0 _ (by omega)).1]
 simp only [ovL, ov_glue, List.append_assoc, List.cons_append, List.nil_append]
theorem ovL_take {nm : Nat} {vs vs' : Nat → Nat} {l : List α} {k : Nat} (h : k < l.length) : ovL nm (glue (sub nm k) vs vs') 0 (l.take (k + 1)) = ovL nm vs' 0 (l.take k) ++ [ov (sub nm k) vs l[k]] := by
 have ht : (l.take k).length = k := by simp; omega
 rw [List.take_succ_eq_append_getElem h, ovL_app, ht, Nat.zero_add, (ovL_glue' vs vs' 0 _ (by omega)).1]
 simp only [ovL, ov_glue]
theorem hpLe_pre {a H t : Hp} (h : hpLe H t) (hn : ∀ p ∈ t, ∀ q ∈ a, q.1 ≠ p.1) : hpLe (a ++ H) t := hpLe_iff.2 fun p hp => by
 rw [hg_app_r (fun q hq => hn p hp q hq)]; exact hpLe_iff.1 h p hp
theorem hpLe_c {j : Nat} {b : Box} {H t : Hp} (h : hpLe H t) (hn : ∀ p ∈ t, j ≠ p.1) : hpLe ((j, b) :: H) t := hpLe_pre (a := [(j, b)]) h fun p hp q hq => by rw [List.mem_singleton.1 hq]; exact hn p hp
theorem ohL_more {nm k : Nat} {vs v1 : Nat → Nat} {l : List α} (h : k < l.length) {H : Hp} (h1 : hpLe H (ohL nm vs 0 (l.take k))) (h2 : hpLe H (oh (sub nm k) v1 l[k])) : hpLe H (ohL nm (glue (sub nm k) v1 vs) 0 (l.take (k + 1))) := by
 rw [ohL_take h, hpLe_app]; exact ⟨h1, h2⟩
theorem ohL_ge {nm i : Nat} {vs : Nat → Nat} {l : List α} : ∀ p ∈ ohL nm vs i l, 10000 ≤ p.1 := fun p hp => by obtain ⟨q, _, hq⟩ := ohL_in hp; exact hq.ge
theorem ohL_lt {nm : Nat} {vs : Nat → Nat} {l : List α} {k : Nat} : ∀ p ∈ ohL nm vs 0 (l.take k), ∃ i, i < k ∧ InT (sub nm i) p.1 := fun p hp => by
 obtain ⟨j, hj, hm⟩ := ohL_mem hp
 rw [Nat.zero_add] at hm
 exact ⟨j, by simp at hj; omega, OVal.inh hm⟩
end
theorem copyPatO_ok (nm : Nat) (q : Pat) (hx : Bulk.bulk q ≤ 4294967296) : CallsH Tryz.prog 130 [av q] [] (ToPost nm q) := by
 obtain ⟨l⟩ := q
 have hl := bulk_length l
 have hb : Bulk.bulk l + 1 ≤ 4294967296 := hx
 have C := ClonePNodeR_ok 8 l (by omega)
 refine callsH_goes (Post := fun r hp' => ∃ v vs, r = .agg [.row 8 v l.length] ∧ hp' = (8, ⟨v, false, 94, 4, ovL (sub nm 0) vs 0 l⟩) :: ohL (sub nm 0) vs 0 l) (ir_impl_copyPat_O.H rfl ?_) ?_
 case refine_2 =>
  rintro r hp' ⟨v, vs, rfl, rfl⟩
  refine Goes.renA 0 0 8 (sub nm 0) (v := v) (n := l.length) rfl rfl hg_eq rfl fun v' => ?_
  obtain ⟨H', hH'⟩ : ∃ H', H' = ((sub nm 0, ⟨v', false, 94, 4, ovL (sub nm 0) vs 0 l⟩) :: hrest [8] ((8, ⟨v, false, 94, 4, ovL (sub nm 0) vs 0 l⟩) :: ohL (sub nm 0) vs 0 l) : Hp) := ⟨_, rfl⟩
  have hle := full_le (α := PNode) (nm := sub nm 0) (j := 8) (l := l) (vs := vs) (by omega) hH'
  dsimp only
  rw [← hH']
  refine Goes.le (t := ⟨[(0, .agg [.row (sub nm 0) v' l.length])], oh (sub nm 0) (glue (sub nm 0) (fun k => if k = sub nm 0 then v' else vs k) vs) l⟩) ?_ (by simp +contextual -dsimp only [↓SD, SU, SB, simprocAttr]) hle
  exact ⟨_, by rw [ov_Pat]; rw [← (oh_full (nm := sub nm 0) (vs := vs) (v' := v') l).1]; rfl, rfl⟩
 simp +contextual -dsimp (maxSteps := 2000000) only [↓SD, SU, SB, simprocAttr, ir_impl_copyPat_O, av_Pat, map_len]
 intro v
 refine aCallH_of [] C (by simp +contextual -dsimp only [↓SD, SU, SB, simprocAttr]) ?_
 rintro r hp' ⟨u, rfl, rfl⟩
 simp +contextual -dsimp (maxSteps := 2000000) only [↓SD, SU, SB, simprocAttr, map_len]
 intro v3
 obtain ⟨K, hK⟩ : ∃ K, K = sub nm 0 := ⟨_, rfl⟩
 rw [← hK]
 refine aLoop_of (X := Nat × (Nat → Nat)) (fun x => ⟨[(2, .ptr 2 v 0 0), (3, .ptr 3 v3 0 0), (11, .row 8 u l.length), (12, .int .i64 l.length), (13, .int .i64 x.1)], (2, ⟨v, false, 89, 1, [.agg [.nils]]⟩) :: (3, ⟨v3, false, 89, 1, [.agg [.row 8 u l.length]]⟩) :: (8, ⟨u, false, 94, 4, mixO K x.2 l x.1⟩) :: ohL K x.2 0 (l.take x.1)⟩) (fun x => x.1 ≤ l.length) (fun x => l.length - x.1) (0, fun _ => 0) (Nat.zero_le _) (by simp +contextual -dsimp only [↓SD, SU, SB, simprocAttr]) (by simp +contextual -dsimp only [↓SD, SU, SB, simprocAttr, mixO_zero, List.take_zero, ohL_nil]) ?_
 rintro ⟨k, vs⟩ hk
 dsimp only at hk ⊢
 by_cases hlt : k < l.length
 ·have hg := mixO_get (nm := K) (vs := vs) hlt .top
  have hs := fun v1 => mixO_set (nm := K) (vs := v1) (vs' := vs) hlt
  have hlen := mixO_len (nm := K) (vs := vs) hk
  have hm := bulk_mem (List.getElem_mem hlt)
  have hb1 : Bulk.bulk l[k] = Bulk.bulk l[k].kind + Bulk.bulk l[k].n + Bulk.bulk l[k].s + Bulk.bulk l[k].kids + 1 := rfl
  have hl1 := bulk_length l[k].kids
  have CI := CloneIntO_ok (sub (sub K k) 0) l[k].kids (by omega)
  obtain ⟨U, hU⟩ : ∃ U, U = ohL K vs 0 (l.take k) := ⟨_, rfl⟩
  have hUU : hpLe U U := by rw [hU]; exact ohL_self _ _ _ _
  have hUg : ∀ p ∈ U, 10000 ≤ p.1 := by rw [hU]; exact ohL_ge
  have hUl : ∀ p ∈ U, ∃ i, i < k ∧ InT (sub K i) p.1 := by rw [hU]; exact ohL_lt
  have hmo := fun v1 (H : Hp) => ohL_more (nm := K) (vs := vs) (v1 := v1) hlt (H := H)
  rw [← hU] at hmo ⊢
  clear hU
  generalize mixO K vs l k = M at *
  simp only [ov_PNode, oh_PNode] at hs hmo
  generalize l[k] = a at *
  rw [av_PNode] at hg
  simp +contextual -dsimp (maxSteps := 2000000) only [↓SD, SU, SB, simprocAttr, map_len, hlt, hg, hlen]
  intro w5
  refine ⟨?_, ?_⟩
  all_goals
   refine aCallH_gen [] CI (by simp +contextual -dsimp only [↓SD, SU, SB, simprocAttr]) ?_
   rintro r hp' ⟨v1, rfl, rfl⟩ H hH
   rw [hrest_no] at hH
   have hold := old_get hH
   have ho : hpLe H (oh (sub (sub K k) 0) v1 a.kids) := by rw [hH]; exact hpLe_l (OVal.self _ _ _)
   have hUH : hpLe H U := by
    rw [hH]
    refine hpLe_pre ?_ fun p hp q hq e => ?_
    ·repeat (first | exact hUU | refine hpLe_c ?_ (fun p hp e => by have := hUg p hp; omega))
    ·obtain ⟨i, hi, h1⟩ := hUl p hp
     have h2 := (OVal.inh hq).up
     rw [e] at h2
     have := h1.sib h2
     omega
   simp +contextual -dsimp (maxSteps := 2000000) only [↓SD, SU, SB, simprocAttr, map_len, ov_list, hlt, hg, hlen, hold]
   refine ⟨by omega, Goes.le ⟨(k + 1, glue (sub K k) v1 vs), ⟨hlt, (by first | omega | (simp only; omega))⟩, rfl⟩ (by simp +contextual -dsimp only [↓SD, SU, SB, simprocAttr, Int.natCast_add]) ?_⟩
   have hs1 := hs v1
   simp only [← hs1]
   simp +contextual -dsimp (maxSteps := 2000000) only [↓SD, SU, SB, simprocAttr, hold, hg]
   exact hpLe_c (hmo v1 H hUH ho) (fun p hp e => by have := ohL_ge p hp; omega)
 ·obtain rfl : k = l.length := by omega
  rw [List.take_length, mixO_all]
  obtain ⟨U, hU⟩ : ∃ U, U = ohL K vs 0 l := ⟨_, rfl⟩
  have hUU : hpLe U U := by rw [hU]; exact ohL_self _ _ _ _
  have hUg : ∀ p ∈ U, 10000 ≤ p.1 := by rw [hU]; exact ohL_ge
  have hUc : ∀ (j : Nat) (b : Box) (hp : Hp), j < 10000 → hpLe hp U → hpLe ((j, b) :: hp) U := fun j b hp hj h => hpLe_c h fun p hp e => by have := hUg p hp; omega
  rw [← hU]
  simp +contextual -dsimp (maxSteps := 2000000) only [↓SD, SU, SB, simprocAttr, Nat.lt_irrefl]
  refine Goes.post ((8, ⟨u, false, 94, 4, ovL K vs 0 l⟩) :: U) ?_
  simp +contextual -dsimp (maxSteps := 2000000) only [↓SD, SU, SB, simprocAttr, false_and]
  exact ⟨by repeat (first | exact hUU | refine hUc _ _ _ (by omega) ?_), u, vs, rfl, by rw [hU, hK]⟩
theorem copyPatsO_ok (nm : Nat) (l : List Pat) (hx : Bulk.bulk l ≤ 4294967296) : CallsH Tryz.prog 69 [.sl (l.map av)] [] (ToPost nm l) := by
 have hl := bulk_length l
 refine ir_impl_copyPats_O.H rfl ?_
 simp +contextual -dsimp (maxSteps := 2000000) only [↓SD, SU, SB, simprocAttr, ir_impl_copyPats_O, map_len]
 intro v6
 refine aLoop_of (X := Nat × Nat × (Nat → Nat)) (fun x => ⟨[(3, .row 6 x.2.1 x.1), (7, .sl (l.map av)), (8, .int .i64 l.length), (9, .int .i64 x.1)], (6, ⟨x.2.1, false, 89, 1, ovL nm x.2.2 0 (l.take x.1)⟩) :: ohL nm x.2.2 0 (l.take x.1)⟩) (fun x => x.1 ≤ l.length) (fun x => l.length - x.1) (0, v6, fun _ => 0) (Nat.zero_le _) (by simp +contextual -dsimp only [↓SD, SU, SB, simprocAttr]) (by simp +contextual -dsimp only [↓SD, SU, SB, simprocAttr, List.take_zero, ohL_nil, ovL]) ?_
 rintro ⟨k, u, vs⟩ hk
 dsimp only at hk ⊢
 by_cases hlt : k < l.length
 ·have e := getD_map av l k .top hlt
  have hm := bulk_mem (List.getElem_mem hlt)
  have C := copyPatO_ok (sub nm k) l[k] (by omega)
  have ho := fun v1 => ovL_take (nm := nm) (vs := v1) (vs' := vs) hlt
  have hmo := fun v1 (H : Hp) => ohL_more (nm := nm) (vs := vs) (v1 := v1) hlt (H := H)
  have hel : (ovL nm vs 0 (l.take k)).length = k := by rw [ovL_len]; simp; omega
  obtain ⟨U, hU⟩ : ∃ U, U = ohL nm vs 0 (l.take k) := ⟨_, rfl⟩
  have hUU : hpLe U U := by rw [hU]; exact ohL_self _ _ _ _
  have hUg : ∀ p ∈ U, 10000 ≤ p.1 := by rw [hU]; exact ohL_ge
  have hUl : ∀ p ∈ U, ∃ i, i < k ∧ InT (sub nm i) p.1 := by rw [hU]; exact ohL_lt
  rw [← hU] at hmo ⊢
  clear hU
  obtain ⟨E, hE⟩ : ∃ E, E = ovL nm vs 0 (l.take k) := ⟨_, rfl⟩
  rw [← hE] at hel ho ⊢
  have hEt : List.take k E = E := List.take_of_length_le (by omega)
  simp only [oh_Pat, ov_Pat] at hmo ho
  generalize l[k] = q at *
  rw [av_Pat] at e C
  simp +contextual -dsimp (maxSteps := 2000000) only [↓SD, SU, SB, simprocAttr, map_len, hlt, e]
  intro w5
  refine aCallH_gen [] C (by simp +contextual -dsimp only [↓SD, SU, SB, simprocAttr]) ?_
  rintro r hp' ⟨v1, rfl, rfl⟩ H hH
  rw [hrest_no] at hH
  have hold := fun q hq => old_get hH q hq
  rw [oh_Pat] at hH
  have hoq : hpLe H (oh (sub (sub nm k) 0) v1 q.nodes) := by rw [hH]; exact hpLe_l (OVal.self _ _ _)
  have hUH : hpLe H U := by
   rw [hH]
   refine hpLe_pre ?_ fun p hp q hq e => ?_
   ·repeat (first | exact hUU | refine hpLe_c ?_ (fun p hp e => by have := hUg p hp; omega))
   ·obtain ⟨i, hi, h1⟩ := hUl p hp
    have h2 := (OVal.inh hq).up
    rw [e] at h2
    have := h1.sib h2
    omega
  have hr1 := hpLe_root hoq
  simp +contextual -dsimp (maxSteps := 2000000) only [↓SD, SU, SB, simprocAttr, map_len, ov_Pat, hold, hel, hEt, hr1, false_and, low_beq]
  refine ⟨⟨by omega, by unfold maxLen; omega⟩, fun w => ⟨by omega, Goes.le ⟨(k + 1, w, glue (sub nm k) v1 vs), ⟨hlt, (by first | omega | (simp only; omega))⟩, rfl⟩ (by simp +contextual -dsimp only [↓SD, SU, SB, simprocAttr, Int.natCast_add]) ?_⟩⟩
  have ho1 := ho v1
  simp only [ho1]
  simp +contextual -dsimp (maxSteps := 2000000) only [↓SD, SU, SB, simprocAttr]
  exact hpLe_c (hmo v1 H hUH hoq) (fun p hp e => by have := ohL_ge p hp; omega)
 ·obtain rfl : k = l.length := by omega
  rw [List.take_length]
  obtain ⟨H, hH⟩ : ∃ H, H = ((6, ⟨u, false, 89, 1, ovL nm vs 0 l⟩) :: ohL nm vs 0 l : Hp) := ⟨_, rfl⟩
  rw [← hH]
  simp +contextual -dsimp (maxSteps := 2000000) only [↓SD, SU, SB, simprocAttr, map_len, Nat.lt_irrefl]
  rw [hH]
  refine Goes.ren 2 6 nm (v := u) (n := l.length) rfl hg_eq rfl fun v' => ?_
  obtain ⟨H', hH'⟩ : ∃ H', H' = ((nm, ⟨v', false, 89, 1, ovL nm vs 0 l⟩) :: hrest [6] ((6, ⟨u, false, 89, 1, ovL nm vs 0 l⟩) :: ohL nm vs 0 l) : Hp) := ⟨_, rfl⟩
  have hr : hget H' nm = some ⟨v', false, 89, 1, ovL nm vs 0 l⟩ := by rw [hH']; exact hg_eq
  have hle := full_le (α := Pat) (nm := nm) (j := 6) (l := l) (vs := vs) (by omega) hH'
  dsimp only
  rw [← hH']
  refine Goes.post (oh nm (glue nm (fun k => if k = nm then v' else vs k) vs) l) ?_
  simp +contextual -dsimp (maxSteps := 2000000) only [↓SD, SU, SB, simprocAttr, hr, false_and]
  exact ⟨hle, _, (oh_full l).1.symm, rfl⟩
set_option maxHeartbeats 4000000 in
theorem copyTypesO_ok (nm : Nat) (l : List TypeD) (hx : Bulk.bulk l ≤ 4294967296) : CallsH Tryz.prog 71 [.sl (l.map av)] [] (ToPost nm l) := by
 have hl := bulk_length l
 refine ir_impl_copyTypes_O.H rfl ?_
 simp +contextual -dsimp (maxSteps := 2000000) only [↓SD, SU, SB, simprocAttr, ir_impl_copyTypes_O, map_len]
 intro v8
 refine aLoop_of (X := Nat × Nat × (Nat → Nat)) (fun x => ⟨[(3, .row 8 x.2.1 x.1), (9, .sl (l.map av)), (10, .int .i64 l.length), (11, .int .i64 x.1)], (8, ⟨x.2.1, false, 74, 3, ovL nm x.2.2 0 (l.take x.1)⟩) :: ohL nm x.2.2 0 (l.take x.1)⟩) (fun x => x.1 ≤ l.length) (fun x => l.length - x.1) (0, v8, fun _ => 0) (Nat.zero_le _) (by simp +contextual -dsimp only [↓SD, SU, SB, simprocAttr]) (by simp +contextual -dsimp only [↓SD, SU, SB, simprocAttr, List.take_zero, ohL_nil, ovL]) ?_
 rintro ⟨k, u, vs⟩ hk
 dsimp only at hk ⊢
 by_cases hlt : k < l.length
 ·have e := getD_map av l k .top hlt
  have hm := bulk_mem (List.getElem_mem hlt)
  have ho := fun v1 => ovL_take (nm := nm) (vs := v1) (vs' := vs) hlt
  have hmo := fun v1 (H : Hp) => ohL_more (nm := nm) (vs := vs) (v1 := v1) hlt (H := H)
  have hel : (ovL nm vs 0 (l.take k)).length = k := by rw [ovL_len]; simp; omega
  obtain ⟨U, hU⟩ : ∃ U, U = ohL nm vs 0 (l.take k) := ⟨_, rfl⟩
  have hUU : hpLe U U := by rw [hU]; exact ohL_self _ _ _ _
  have hUg : ∀ p ∈ U, 10000 ≤ p.1 := by rw [hU]; exact ohL_ge
  have hUl : ∀ p ∈ U, ∃ i, i < k ∧ InT (sub nm i) p.1 := by rw [hU]; exact ohL_lt
  rw [← hU] at hmo ⊢
  clear hU
  obtain ⟨E, hE⟩ : ∃ E, E = ovL nm vs 0 (l.take k) := ⟨_, rfl⟩
  rw [← hE] at hel ho ⊢
  have hEt : List.take k E = E := List.take_of_length_le (by omega)
  simp only [oh_TypeD, ov_TypeD] at hmo ho
  generalize l[k] = t at *
  have hbt : Bulk.bulk t = Bulk.bulk t.name + Bulk.bulk t.params + Bulk.bulk t.cons + 1 := rfl
  have hcl := bulk_length t.cons
  rw [av_TypeD] at e
  obtain ⟨C0, hC0⟩ : ∃ C0, C0 = sub (sub nm k) 0 := ⟨_, rfl⟩
  have CC := CloneConR_ok C0 t.cons (by omega)
  rw [← hC0] at ho hmo
  have hKn : ∀ q, q < 10000 → (q == C0) = false := fun q hq => by rw [hC0]; exact low_beq hq
  have hKm : ∀ q, q < 10000 → (C0 = q) = False := fun q hq => eq_false fun e => by have := sub_ge (sub nm k) 0; omega
  simp +contextual -dsimp (maxSteps := 2000000) only [↓SD, SU, SB, simprocAttr, map_len, hlt, e]
  intro w5
  refine aCallH_gen [] CC (by simp +contextual -dsimp only [↓SD, SU, SB, simprocAttr]) ?_
  rintro r hp' ⟨uC, rfl, rfl⟩ H hH
  rw [hrest_no] at hH
  have hC : hget H C0 = some ⟨uC, false, 80, 3, t.cons.map av⟩ := by rw [hH]; exact hg_eq
  have hold : ∀ q, q < 10000 → hget H q = hget ([(5, ⟨w5, false, 74, 3, [.agg [.str t.name, .int .i64 t.params, .sl (t.cons.map av)]]⟩), (8, ⟨u, false, 74, 3, E⟩)] ++ U) q := fun q hq => by
   rw [hH, List.cons_append, hg_ne (fun e => by have := sub_ge (sub nm k) 0; omega)]
   simp only [List.nil_append, hget, List.cons_append]
   split <;> rfl
  have hUH : hpLe H U := by
   rw [hH]
   refine hpLe_pre ?_ fun p hp q hq e => ?_
   ·repeat (first | exact hUU | refine hpLe_c ?_ (fun p hp e => by have := hUg p hp; omega))
   ·obtain ⟨i, hi, h1⟩ := hUl p hp
    rw [List.mem_singleton.1 hq] at e
    simp only at e
    rw [← e, hC0] at h1
    have := h1.sib (InT.up (i := 0) .root)
    omega
  simp +contextual -dsimp (maxSteps := 2000000) only [↓SD, SU, SB, simprocAttr, map_len, hold, hC, hKn, hKm, List.length_map]
  refine aLoop_of (X := Nat × (Nat → Nat)) (fun x => ⟨[(3, .row 8 u k), (5, .ptr 5 w5 0 0), (9, .sl (l.map av)), (10, .int .i64 l.length), (11, .int .i64 k), (20, .row C0 uC t.cons.length), (21, .int .i64 t.cons.length), (22, .int .i64 x.1)], (8, ⟨u, false, 74, 3, E⟩) :: (5, ⟨w5, false, 74, 3, [.agg [.str t.name, .int .i64 t.params, .row C0 uC t.cons.length]]⟩) :: (C0, ⟨uC, false, 80, 3, mixO C0 x.2 t.cons x.1⟩) :: (ohL C0 x.2 0 (t.cons.take x.1) ++ U)⟩) (fun x => x.1 ≤ t.cons.length) (fun x => t.cons.length - x.1) (0, fun _ => 0) (Nat.zero_le _) (by simp +contextual -dsimp only [↓SD, SU, SB, simprocAttr]) (by
   simp +contextual -dsimp (maxSteps := 2000000) only [↓SD, SU, SB, simprocAttr, mixO_zero, List.take_zero, ohL_nil, hold, hC, hKn, hKm, List.nil_append]
   exact hpLe_c hUH (fun p hp e => by have := hUg p hp; omega)) ?_
  clear hC hold hUH hH H
  rintro ⟨j, vc⟩ hj
  dsimp only at hj ⊢
  by_cases hlj : j < t.cons.length
  ·have hg := mixO_get (nm := C0) (vs := vc) hlj .top
   have hs := fun v1 => mixO_set (nm := C0) (vs := v1) (vs' := vc) hlj
   have hlen := mixO_len (nm := C0) (vs := vc) hj
   have hmj := bulk_mem (List.getElem_mem hlj)
   have hb1 : Bulk.bulk t.cons[j] = Bulk.bulk t.cons[j].name + Bulk.bulk t.cons[j].has + Bulk.bulk t.cons[j].arg + 1 := rfl
   have hb2 : Bulk.bulk t.cons[j].arg = Bulk.bulk t.cons[j].arg.items + 1 := rfl
   have hl1 := bulk_length t.cons[j].arg.items
   have CI := CloneTyItemO_ok (sub (sub C0 j) 0) t.cons[j].arg.items (by omega)
   obtain ⟨V, hV⟩ : ∃ V, V = ohL C0 vc 0 (t.cons.take j) := ⟨_, rfl⟩
   have hVV : hpLe V V := by rw [hV]; exact ohL_self _ _ _ _
   have hVg : ∀ p ∈ V, 10000 ≤ p.1 := by rw [hV]; exact ohL_ge
   have hVl : ∀ p ∈ V, ∃ i, i < j ∧ InT (sub C0 i) p.1 := by rw [hV]; exact ohL_lt
   have hmj := fun v1 (H : Hp) => ohL_more (nm := C0) (vs := vc) (v1 := v1) hlj (H := H)
   rw [← hV] at hmj ⊢
   clear hV
   have hVU : hpLe (V ++ U) (V ++ U) := by
    refine hpLe_app.2 ⟨hpLe_l hVV, hpLe_pre hUU fun p hp q hq e => ?_⟩
    obtain ⟨i, hi, h1⟩ := hUl p hp
    obtain ⟨i2, hi2, h2⟩ := hVl q hq
    rw [hC0, e] at h2
    have := h1.sib h2.up.up
    omega
   have hWg : ∀ p ∈ V ++ U, 10000 ≤ p.1 := fun p hp => (List.mem_append.1 hp).elim (hVg p) (hUg p)
   have hWC : ∀ p ∈ V ++ U, C0 ≠ p.1 := fun p hp e => by
    rcases List.mem_append.1 hp with h | h
    ·obtain ⟨i2, hi2, h2⟩ := hVl p h
     exact h2.ne e.symm
    ·obtain ⟨i, hi, h1⟩ := hUl p h
     rw [← e, hC0] at h1
     have := h1.sib (InT.up (i := 0) .root)
     omega
   generalize mixO C0 vc t.cons j = M at *
   simp only [ov_Con, oh_Con] at hs hmj
   generalize t.cons[j] = a at *
   rw [av_Con] at hg
   simp +contextual -dsimp (maxSteps := 2000000) only [↓SD, SU, SB, simprocAttr, map_len, hlj, hg, hlen, hKn, hKm, false_and]
   intro w7
   refine ⟨?_, ?_⟩
   all_goals
    refine aCallH_gen [] CI (by simp +contextual -dsimp only [↓SD, SU, SB, simprocAttr]) ?_
    rintro r hp' ⟨v1, rfl, rfl⟩ H hH
    rw [hrest_no] at hH
    have hold := old_get hH
    have ho2 : hpLe H (oh (sub (sub C0 j) 0) v1 a.arg.items) := by rw [hH]; exact hpLe_l (OVal.self _ _ _)
    have hCn : ¬ InT (sub (sub C0 j) 0) C0 := fun h => h.up.ne rfl
    have hHC : hget H C0 = some ⟨uC, false, 80, 3, M⟩ := by
     rw [hH, hg_app_r (oh_ne hCn)]
     simp only [hget, hKm, eq_comm, if_false, if_true]
     first | rfl | simp [hget, eq_comm, hKm]
    have hWH : hpLe H (V ++ U) := by
     rw [hH]
     refine hpLe_pre ?_ fun p hp q hq e => ?_
     ·repeat (first | exact hVU | refine hpLe_c ?_ (fun p hp e => by have := hWg p hp; omega) | refine hpLe_c ?_ hWC)
     ·have h2 := (OVal.inh hq).up
      rw [e] at h2
      rcases List.mem_append.1 hp with h | h
      ·obtain ⟨i, hi, h1⟩ := hVl p h
       have := h1.sib h2
       omega
      ·obtain ⟨i, hi, h1⟩ := hUl p h
       have h3 := h2.up
       rw [hC0] at h3
       have := h1.sib h3.up
       omega
    simp +contextual -dsimp (maxSteps := 2000000) only [↓SD, SU, SB, simprocAttr, map_len, ov_list, hlj, hg, hlen, hold, hHC, hKn, hKm, false_and]
    refine ⟨by omega, Goes.le ⟨(j + 1, glue (sub C0 j) v1 vc), ⟨hlj, (by first | omega | (simp only; omega))⟩, rfl⟩ (by simp +contextual -dsimp only [↓SD, SU, SB, simprocAttr, Int.natCast_add]) ?_⟩
    have hs1 := hs v1
    simp only [← hs1]
    simp +contextual -dsimp (maxSteps := 2000000) only [↓SD, SU, SB, simprocAttr, hold, hKm]
    have hC1 : 10000 ≤ C0 := by rw [hC0]; exact sub_ge _ _
    refine ⟨(by rw [hg_ne (by omega), hold 8 (by omega)]; rfl), (by rw [hg_ne (by omega), hold 5 (by omega)]; rfl), ?_⟩
    exact hpLe_app.2 ⟨hpLe_c (hmj v1 H (hpLe_app.1 hWH).1 ho2) (fun p hp e => by obtain ⟨i2, _, h2⟩ := ohL_in hp; exact h2.ne e.symm), hpLe_c (hpLe_app.1 hWH).2 (fun p hp => hWC p (List.mem_append_right _ hp))⟩
  ·obtain rfl : j = t.cons.length := by omega
   rw [List.take_length, mixO_all]
   obtain ⟨vT, hvT⟩ : ∃ vT : Nat → Nat, vT = glue C0 (fun q => if q = C0 then uC else vc q) vc := ⟨_, rfl⟩
   have hfull := oh_full (nm := C0) (vs := vc) (v' := uC) t.cons
   rw [← hvT, ov_list] at hfull
   have hCv : vT C0 = uC := by have := hfull.1; cases this; rfl
   have hVV : hpLe (ohL C0 vc 0 t.cons) (ohL C0 vc 0 t.cons) := ohL_self _ _ _ _
   have hVg : ∀ p ∈ ohL C0 vc 0 t.cons, 10000 ≤ p.1 := ohL_ge
   have hVC : ∀ p ∈ ohL C0 vc 0 t.cons, C0 ≠ p.1 := fun p hp e => by obtain ⟨i2, _, h2⟩ := ohL_in hp; exact h2.ne e.symm
   have hUC : ∀ p ∈ U, C0 ≠ p.1 := fun p hp e => by
    obtain ⟨i, hi, h1⟩ := hUl p hp
    rw [← e, hC0] at h1
    have := h1.sib (InT.up (i := 0) .root)
    omega
   have hVU : hpLe (ohL C0 vc 0 t.cons ++ U) U := hpLe_pre hUU fun p hp q hq e => by
    obtain ⟨i, hi, h1⟩ := hUl p hp
    obtain ⟨i2, hi2, h2⟩ := ohL_in hq
    rw [hC0, e] at h2
    have := h1.sib h2.up.up
    omega
   have ho1 := ho vT
   rw [hCv] at ho1
   have hm1 := hmo vT
   rw [hfull.2] at hm1
   generalize ohL C0 vc 0 t.cons = V at *
   obtain ⟨R, hR⟩ : ∃ R, R = (C0, (⟨uC, false, 80, 3, ovL C0 vc 0 t.cons⟩ : Box)) :: (V ++ U) := ⟨_, rfl⟩
   have hRU : hpLe R U := by rw [hR]; exact hpLe_c hVU hUC
   have hRV : hpLe R (V ++ [(C0, ⟨uC, false, OVal.ty Con, AVal.n Con, ovL C0 vc 0 t.cons⟩)]) := by
    rw [hR]
    exact hpLe_app.2 ⟨hpLe_c (hpLe_l hVV) hVC, hg_eq, trivial⟩
   have hRC : hget R C0 = some ⟨uC, false, 80, 3, ovL C0 vc 0 t.cons⟩ := by rw [hR]; exact hg_eq
   rw [← hR]
   simp +contextual -dsimp (maxSteps := 2000000) only [↓SD, SU, SB, simprocAttr, Nat.lt_irrefl, hel, hEt, hKn, hKm, hRC, false_and]
   refine ⟨⟨by omega, by unfold maxLen; omega⟩, fun w => ⟨by omega, Goes.le ⟨(k + 1, w, glue (sub nm k) vT vs), ⟨hlt, (by first | omega | (simp only; omega))⟩, rfl⟩ (by simp +contextual -dsimp only [↓SD, SU, SB, simprocAttr, Int.natCast_add]) ?_⟩⟩
   simp only [ho1]
   simp +contextual -dsimp (maxSteps := 2000000) only [↓SD, SU, SB, simprocAttr]
   have hlow : ∀ (j : Nat) (b : Box) (hp : Hp), j < 10000 → hpLe hp (ohL nm (glue (sub nm k) vT vs) 0 (l.take (k + 1))) → hpLe ((j, b) :: hp) (ohL nm (glue (sub nm k) vT vs) 0 (l.take (k + 1))) := fun j b hp hj h => hpLe_c h fun p hp e => by have := ohL_ge p hp; omega
   refine hlow _ _ _ (by omega) (hlow _ _ _ (by omega) (hlow _ _ _ (by omega) (hm1 R hRU hRV)))
 ·obtain rfl : k = l.length := by omega
  rw [List.take_length]
  obtain ⟨H, hH⟩ : ∃ H, H = ((8, ⟨u, false, 74, 3, ovL nm vs 0 l⟩) :: ohL nm vs 0 l : Hp) := ⟨_, rfl⟩
  rw [← hH]
  simp +contextual -dsimp (maxSteps := 2000000) only [↓SD, SU, SB, simprocAttr, map_len, Nat.lt_irrefl]
  rw [hH]
  refine Goes.ren 2 8 nm (v := u) (n := l.length) rfl hg_eq rfl fun v' => ?_
  obtain ⟨H', hH'⟩ : ∃ H', H' = ((nm, ⟨v', false, 74, 3, ovL nm vs 0 l⟩) :: hrest [8] ((8, ⟨u, false, 74, 3, ovL nm vs 0 l⟩) :: ohL nm vs 0 l) : Hp) := ⟨_, rfl⟩
  have hr : hget H' nm = some ⟨v', false, 74, 3, ovL nm vs 0 l⟩ := by rw [hH']; exact hg_eq
  have hle := full_le (α := TypeD) (nm := nm) (j := 8) (l := l) (vs := vs) (by omega) hH'
  dsimp only
  rw [← hH']
  refine Goes.post (oh nm (glue nm (fun k => if k = nm then v' else vs k) vs) l) ?_
  simp +contextual -dsimp (maxSteps := 2000000) only [↓SD, SU, SB, simprocAttr, hr, false_and]
  exact ⟨hle, _, (oh_full l).1.symm, rfl⟩
end Go.Proofs.YtjifpdcflankpaaGreat

namespace Go.Proofs.YtjifpdcflankpaaGreat
open Go.RowKit Go.Proofs.YtjifpdcflankpaaGreat.Av Go.Proofs.YtjifpdcflankpaaGreat.Ml
open Go.Proofs.YtjifpdcflankpaaGreat.Av.AVal (av)
open OVal (ov oh on)

def growO (G : List AV) (x : AV) (hp : Hp) : Prop := (G = [] ∧ x = .nils ∧ hp = []) ∨ ∃ v, x = .row 29 v G.length ∧ hp = [(29, ⟨v, false, 44, 6, G⟩)]
def FlatPostT (nm : Nat) (G : List AV) (t : Tr) (r : AV) (hp' : Hp) : Prop := ∃ v vs, r = .tup [.row 29 v (G.length + t.size), .int .i64 G.length] ∧ hp' = (29, ⟨v, false, 44, 6, G ++ ovL nm vs G.length (layT G.length t)⟩) :: ohL nm vs G.length (layT G.length t)
structure FtS where
 j : Nat
 v : Nat
 u : Nat
 vs : Nat → Nat
set_option maxHeartbeats 4000000 in
theorem flatO_ok (nm : Nat) : ∀ (t : Tr), t.ok → ∀ (G : List AV) (x : AV) (hp : Hp), growO G x hp → G.length + t.size ≤ 4294967296 → CallsH Tryz.prog 70 [x, av t] hp (FlatPostT nm G t) := by
 refine Tr.ind fun n ks ih hok G x hp hx hb => ?_
 rw [Tr.ok] at hok
 obtain ⟨⟨ht3, ht13, hbn⟩, hoks⟩ := hok
 have ec : (Tr.mk n ks).size = Tr.sizes ks + 1 := by rw [Tr.size]
 rw [ec] at hb
 have hkl := sizes_len ks
 have hbp : Bulk.bulk n.pats ≤ Bulk.bulk n := by simp only [Bulk.bulk]; omega
 have hpl := bulk_length n.pats
 obtain ⟨P, hP⟩ : ∃ P, P = sub (sub nm G.length) 1 := ⟨_, rfl⟩
 have CP := copyPatsO_ok P n.pats (by omega)
 have hPn : ∀ q, q < 10000 → (q == P) = false := fun q hq => by rw [hP]; exact low_beq hq
 have hPg : 10000 ≤ P := by rw [hP]; exact sub_ge _ _
 have hPm : ∀ q, q < 10000 → (P = q) = False := fun q hq => eq_false fun e => by omega
 refine ir_impl_flat_O.H rfl ?_
 obtain ⟨N0, hN0⟩ : ∃ N0 : Nat → AV, N0 = fun v => .agg [.int .i64 n.kind, .int .i64 n.pos, .int .i64 n.n, .str n.s, .nils, .row P v n.pats.length] := ⟨_, rfl⟩
 rcases hx with ⟨hG0, rfl, rfl⟩ | ⟨v, rfl, rfl⟩
 case' inl =>
  have hG1 : G.length = 0 := by rw [hG0]; rfl
  simp +contextual -dsimp (maxSteps := 2000000) only [↓SD, SU, SB, simprocAttr, ir_impl_flat_O, av_Tr, map_len]
  refine aCallH_gen [] CP (by simp +contextual -dsimp only [↓SD, SU, SB, simprocAttr]) ?_
  rintro r hp' ⟨vp, rfl, rfl⟩ H hH
  rw [hrest_no, List.append_nil] at hH
  have hoP : hpLe H (oh P vp n.pats) := by rw [hH]; exact OVal.self _ _ _
  have hr1 := hpLe_root hoP
  simp +contextual -dsimp (maxSteps := 2000000) only [↓SD, SU, SB, simprocAttr, ov_list, map_len, hr1, hPn, hPm, false_and]
  refine ⟨by unfold maxLen; omega, fun v1 v2 => ?_⟩
  refine aLoop_of (X := FtS) (fun q => ⟨[(0, .row 29 q.v (G.length + 1 + Tr.sizes (ks.take q.j))), (6, .int .i64 G.length), (7, .row 30 q.u q.j), (43, .sl (ks.map av)), (44, .int .i64 ks.length), (45, .int .i64 q.j)], (29, ⟨q.v, false, 44, 6, G ++ [N0 (vp P)] ++ ovL nm q.vs (G.length + 1) (layTs (G.length + 1) (ks.take q.j))⟩) :: (30, ⟨q.u, false, 3, 1, (kidT (G.length + 1) (ks.take q.j)).map av⟩) :: (oh P vp n.pats ++ ohL nm q.vs (G.length + 1) (layTs (G.length + 1) (ks.take q.j)))⟩) (fun q => q.j ≤ ks.length) (fun q => ks.length - q.j) ⟨0, v1, v2, fun _ => 0⟩ (Nat.zero_le _) (by simp +contextual -dsimp only [↓SD, SU, SB, simprocAttr, List.take_zero, Tr.sizes, hG1]) (by
   simp +contextual -dsimp (maxSteps := 2000000) only [↓SD, SU, SB, simprocAttr, List.take_zero, layTs, kidT, List.map_nil, List.append_nil, hG0, hN0, ovL, ohL]
   exact hpLe_c (hpLe_c hoP (fun p hp e => by have := (OVal.inh hp).le; omega)) (fun p hp e => by have := (OVal.inh hp).le; omega)) ?_
 case' inr =>
  have t0 : List.take G.length G = G := List.take_length
  simp +contextual -dsimp (maxSteps := 2000000) only [↓SD, SU, SB, simprocAttr, ir_impl_flat_O, av_Tr, map_len, t0]
  refine aCallH_gen [] CP (by simp +contextual -dsimp only [↓SD, SU, SB, simprocAttr]) ?_
  rintro r hp' ⟨vp, rfl, rfl⟩ H hH
  rw [hrest_no] at hH
  have hoP : hpLe H (oh P vp n.pats) := by rw [hH]; exact hpLe_l (OVal.self _ _ _)
  have hr1 := hpLe_root hoP
  have hold : ∀ q, q < 10000 → hget H q = hget [(29, ⟨v, false, 44, 6, G⟩)] q := fun q hq => by
   rw [hH, hg_app_r (oh_ne fun h => by have := h.le; omega)]
  simp +contextual -dsimp (maxSteps := 2000000) only [↓SD, SU, SB, simprocAttr, ov_list, map_len, hr1, hold, hPn, hPm, t0, false_and]
  refine ⟨⟨by omega, by unfold maxLen; omega⟩, fun v1 v2 => ?_⟩
  refine aLoop_of (X := FtS) (fun q => ⟨[(0, .row 29 q.v (G.length + 1 + Tr.sizes (ks.take q.j))), (6, .int .i64 G.length), (7, .row 30 q.u q.j), (43, .sl (ks.map av)), (44, .int .i64 ks.length), (45, .int .i64 q.j)], (29, ⟨q.v, false, 44, 6, G ++ [N0 (vp P)] ++ ovL nm q.vs (G.length + 1) (layTs (G.length + 1) (ks.take q.j))⟩) :: (30, ⟨q.u, false, 3, 1, (kidT (G.length + 1) (ks.take q.j)).map av⟩) :: (oh P vp n.pats ++ ohL nm q.vs (G.length + 1) (layTs (G.length + 1) (ks.take q.j)))⟩) (fun q => q.j ≤ ks.length) (fun q => ks.length - q.j) ⟨0, v1, v2, fun _ => 0⟩ (Nat.zero_le _) (by simp +contextual -dsimp only [↓SD, SU, SB, simprocAttr, List.take_zero, Tr.sizes]) (by
   simp +contextual -dsimp (maxSteps := 2000000) only [↓SD, SU, SB, simprocAttr, List.take_zero, layTs, kidT, List.map_nil, List.append_nil, hN0, ovL, ohL]
   exact hpLe_c (hpLe_c hoP (fun p hp e => by have := (OVal.inh hp).le; omega)) (fun p hp e => by have := (OVal.inh hp).le; omega)) ?_
  clear hold
 all_goals
  clear hr1 hoP hH H
  obtain ⟨W, hW⟩ : ∃ W, W = oh P vp n.pats := ⟨_, rfl⟩
  have hWW : hpLe W W := by rw [hW]; exact OVal.self _ _ _
  have hWi : ∀ p ∈ W, InT P p.1 := by rw [hW]; exact fun p hp => OVal.inh hp
  have hWg : ∀ p ∈ W, 10000 ≤ p.1 := fun p hp => by have := (hWi p hp).le; omega
  have hWs : ∀ p ∈ W, InT (sub nm G.length) p.1 := fun p hp => by have h := hWi p hp; rw [hP] at h; exact h.up
  have hN0f := congrFun hN0 (vp P)
  rw [← hW]
  rintro ⟨j, a, b, vs⟩ hj
  dsimp only at hj ⊢
  by_cases hlt : j < ks.length
  ·have e1 := getD_map av ks j .top hlt
   have b2 := sizes_take ks j hlt
   have ht : ks.take (j + 1) = ks.take j ++ [ks[j]] := List.take_succ_eq_append_getElem hlt
   have hpx : G.length + 1 + Tr.sizes (ks.take (j + 1)) = G.length + 1 + Tr.sizes (ks.take j) + (ks[j]).size := by rw [ht, sizes_app]; omega
   have hfl := layTs_len' (G.length + 1) (ks.take j)
   have hkp := kidT_len (G.length + 1) (ks.take j)
   rw [List.length_take, Nat.min_eq_left hj] at hkp
   have hL : (G ++ [N0 (vp P)] ++ ovL nm vs (G.length + 1) (layTs (G.length + 1) (ks.take j))).length = G.length + 1 + Tr.sizes (ks.take j) := by simp [hfl, ovL_len]; omega
   have C := ih ks[j] (List.getElem_mem hlt) (oks_mem hoks (List.getElem_mem hlt)) (G ++ [N0 (vp P)] ++ ovL nm vs (G.length + 1) (layTs (G.length + 1) (ks.take j))) (.row 29 a (G.length + 1 + Tr.sizes (ks.take j))) [(29, ⟨a, false, 44, 6, G ++ [N0 (vp P)] ++ ovL nm vs (G.length + 1) (layTs (G.length + 1) (ks.take j))⟩)] (.inr ⟨a, by rw [hL], rfl⟩) (by rw [hL]; omega)
   unfold FlatPostT at C
   rw [hL] at C
   have hsn : layTs (G.length + 1) (ks.take (j + 1)) = layTs (G.length + 1) (ks.take j) ++ layT (G.length + 1 + Tr.sizes (ks.take j)) ks[j] := by rw [ht, layTs_snoc]
   have hks : (kidT (G.length + 1) (ks.take (j + 1))).map (av : Int → AV) = (kidT (G.length + 1) (ks.take j)).map av ++ [.int .i64 ((G.length : Int) + 1 + (Tr.sizes (ks.take j) : Int))] := by rw [ht, kidT_snoc, List.map_append]; rfl
   have hkm : ((kidT (G.length + 1) (ks.take j)).map (av : Int → AV)).length = j := by rw [List.length_map, hkp]
   have hkt : List.take j ((kidT (G.length + 1) (ks.take j)).map (av : Int → AV)) = (kidT (G.length + 1) (ks.take j)).map av := List.take_of_length_le (by rw [hkm]; exact Nat.le_refl _)
   generalize (kidT (G.length + 1) (ks.take j)).map (av : Int → AV) = KP at *
   generalize hX : layTs (G.length + 1) (ks.take j) = X at *
   generalize hY : layT (G.length + 1 + Tr.sizes (ks.take j)) ks[j] = Y at *
   have hgl := fun vs1 => glueR_app (nm := nm) vs1 vs (G.length + 1) X Y
   rw [hfl] at hgl
   generalize hN : Tr.sizes (ks.take j) = N at *
   obtain ⟨Q, hQ⟩ : ∃ Q, Q = G ++ [N0 (vp P)] ++ ovL nm vs (G.length + 1) X := ⟨_, rfl⟩
   rw [← hQ] at C ⊢
   simp +contextual -dsimp (maxSteps := 2000000) only [↓SD, SU, SB, simprocAttr, hlt, map_len, e1, tr_cells, tr_pur, tr_pur1, tr_purA, tr_one, tr_ok]
   refine aCallH_gen [29] C (by simp +contextual -dsimp only [↓SD, SU, SB, simprocAttr, tr_purA, false_and]) ?_
   rintro r hp' ⟨w, vs1, rfl, rfl⟩ H hH
   have hYn : ∀ p ∈ ohL nm vs1 (G.length + 1 + N) Y, ∃ i, G.length + 1 + N ≤ i ∧ InT (sub nm i) p.1 := fun p hp => ohL_in hp
   have h30 : hget H 30 = some ⟨b, false, 3, 1, KP⟩ := by
    rw [hH, List.cons_append, hg_ne (by decide), hg_app, ohL_far (by decide)]
    show hget (hrest [29] _) 30 = _
    rw [hget_rest_out (by decide), hg_ne (by decide), hg_eq]
   have h29 : hget H 29 = some ⟨w, false, 44, 6, Q ++ ovL nm vs1 (G.length + 1 + N) Y⟩ := by rw [hH]; exact hg_eq
   have hlast : ∀ bx, hpLe ((30, bx) :: H) (W ++ (ohL nm vs (G.length + 1) X ++ ohL nm vs1 (G.length + 1 + N) Y)) := fun bx => by
    refine hpLe_app.2 ⟨hpLe_iff.2 fun p hp => ?_, ?_⟩
    ·have hge := hWg p hp
     rw [hg_ne (by omega), hH, List.cons_append, hg_ne (by omega), hg_app_r (fun q hq e => by
      obtain ⟨i, hi, h1⟩ := hYn q hq
      rw [e] at h1
      have := h1.sib (hWs p hp)
      omega), hget_rest_out (by simp; omega), hg_ne (by omega), hg_ne (by omega)]
     exact hg_app_l (hpLe_iff.1 hWW p hp)
    ·have h1 := parts_app (nm := nm) (vs := vs1) (vs' := vs) (a := X) (b := Y) (i := G.length + 1) (m := G.length + 1 + N) (s := hrest [29] ((29, ⟨a, false, 44, 6, Q⟩) :: (30, ⟨b, false, 3, 1, KP⟩) :: (W ++ ohL nm vs (G.length + 1) X))) (by omega) (fun p hp => by
      obtain ⟨i, hi, hq⟩ := ohL_in hp
      have hge := hq.ge
      rw [hget_rest_out (by simp; omega), hg_ne (by omega), hg_ne (by omega), hg_app_r (fun q hq' e => by
       have h1 := hWs q hq'
       rw [e] at h1
       have := h1.sib hq
       omega)]
      exact hpLe_iff.1 (ohL_self nm vs _ X) p hp)
     refine hpLe_iff.2 fun p hp => ?_
     have hge : 10000 ≤ p.1 := by
      rcases List.mem_append.1 hp with h | h
      ·exact ohL_ge p h
      ·exact ohL_ge p h
     rw [hg_ne (by omega), hH, List.cons_append, hg_ne (by omega)]
     exact hpLe_iff.1 h1 p hp
   simp +contextual -dsimp (maxSteps := 2000000) only [↓SD, SU, SB, simprocAttr, hkm, hkt, Int.natCast_add, h30, h29]
   refine ⟨⟨by omega, by unfold maxLen; omega⟩, fun v => ⟨by omega, Goes.le ⟨⟨j + 1, w, v, glueR nm (G.length + 1 + N) vs1 vs⟩, ⟨hlt, (by first | omega | (simp only; omega))⟩, rfl⟩ (by simp +contextual -dsimp only [↓SD, SU, SB, simprocAttr, Int.natCast_add, hpx]) ?_⟩⟩
   rw [hsn, (hgl vs1).1, (hgl vs1).2, ← List.append_assoc, ← hQ, hks]
   simp +contextual -dsimp (maxSteps := 2000000) only [↓SD, SU, SB, simprocAttr, h29]
   exact hlast _
  ·obtain rfl : j = ks.length := by omega
   rw [List.take_length]
   have hkp := kidT_len (G.length + 1) ks
   have hfl := layTs_len' (G.length + 1) ks
   have hfx : layT G.length (.mk n ks) = { n with kids := kidT (G.length + 1) ks } :: layTs (G.length + 1) ks := by rw [layT]
   have hL : (G ++ [N0 (vp P)] ++ ovL nm vs (G.length + 1) (layTs (G.length + 1) ks)).length = G.length + 1 + Tr.sizes ks := by simp [hfl, ovL_len]; omega
   have hG : (G ++ [N0 (vp P)] ++ ovL nm vs (G.length + 1) (layTs (G.length + 1) ks)).getD G.length .top = N0 (vp P) := by simp [List.getD_eq_getElem?_getD]
   have hS : ∀ x, (G ++ [N0 (vp P)] ++ ovL nm vs (G.length + 1) (layTs (G.length + 1) ks)).set G.length x = G ++ x :: ovL nm vs (G.length + 1) (layTs (G.length + 1) ks) := fun x => by
    simp [List.set_append]
   have hlt2 : (G.length : Int) < (G.length : Int) + 1 + (Tr.sizes ks : Int) := by omega
   have hlt3 : G.length < G.length + 1 + Tr.sizes ks := by omega
   generalize hX : layTs (G.length + 1) ks = X at *
   obtain ⟨Q, hQ⟩ : ∃ Q, Q = G ++ [N0 (vp P)] ++ ovL nm vs (G.length + 1) X := ⟨_, rfl⟩
   rw [← hQ] at hL hG hS ⊢
   rw [hN0f] at hG
   obtain ⟨KP, hKP⟩ : ∃ KP, KP = kidT (G.length + 1) ks := ⟨_, rfl⟩
   rw [← hKP] at hkp hfx ⊢
   simp +contextual -dsimp (maxSteps := 2000000) only [↓SD, SU, SB, simprocAttr, Nat.lt_irrefl]
   obtain ⟨K, hK⟩ : ∃ K, K = sub (sub nm G.length) 0 := ⟨_, rfl⟩
   have hKg : 10000 ≤ K := by rw [hK]; exact sub_ge _ _
   have hKi : InT (sub nm G.length) K := by rw [hK]; exact InT.up (i := 0) .root
   have hKW : ∀ p ∈ W, K ≠ p.1 := fun p hp e => by
    have h1 := hWi p hp
    rw [← e, hP, hK] at h1
    have := h1.sib .root
    omega
   have hKX : ∀ p ∈ ohL nm vs (G.length + 1) X, K ≠ p.1 := fun p hp e => by
    obtain ⟨i, hi, h1⟩ := ohL_in hp
    rw [← e] at h1
    have := h1.sib hKi
    omega
   refine ghost_of (Goes.ren 7 30 K (v := b) (n := ks.length) rfl (by rw [hg_ne (by decide)]; exact hg_eq) rfl fun v' => Goes.here ?_)
   obtain ⟨H, hH⟩ : ∃ H, H = ((K, (⟨v', false, 3, 1, KP.map av⟩ : Box)) :: hrest [30] ((29, ⟨a, false, 44, 6, Q⟩) :: (30, ⟨b, false, 3, 1, KP.map av⟩) :: (W ++ ohL nm vs (G.length + 1) X)) : Hp) := ⟨_, rfl⟩
   dsimp only
   rw [← hH]
   have h29 : hget H 29 = some ⟨a, false, 44, 6, Q⟩ := by
    rw [hH, hg_ne (by omega), hget_rest_out (by decide), hg_eq]
   obtain ⟨va, hva⟩ : ∃ va : Nat → Nat, va = glueR nm (G.length + 1) vs (fun q => if q = K then v' else vp q) := ⟨_, rfl⟩
   have hvo : ∀ q, InT (sub nm G.length) q → va q = if q = K then v' else vp q := fun q hq => by
    rw [hva]
    exact if_neg (fun ⟨i, hi, hin⟩ => by have := hin.sib hq; omega)
   have hvK : va K = v' := by rw [hvo K hKi, if_pos rfl]
   have hvP := OVal.vdep P va vp n.pats (fun q hq => by
    rw [hvo q (by rw [hP] at hq; exact hq.up), if_neg (fun e => by
     rw [e, hP, hK] at hq
     have := hq.sib .root
     omega)])
   have hvPP : va P = vp P := by have := hvP.1; rw [ov_list, ov_list] at this; exact (AV.row.inj this).2.1
   have hg3 := glueR_hi (nm := nm) (m := G.length + 1) vs (fun q => if q = K then v' else vp q) (G.length + 1) X (Nat.le_refl _)
   rw [← hva] at hg3
   have hov : ovL nm va G.length (layT G.length (.mk n ks)) = .agg [.int .i64 n.kind, .int .i64 n.pos, .int .i64 n.n, .str n.s, .row K v' ks.length, .row P (vp P) n.pats.length] :: ovL nm vs (G.length + 1) X := by
    rw [hfx, ovL, hg3.1, ov_Node, ← hK, ← hP, hvK, hvPP, ← hkp]
   have hoh : ohL nm va G.length (layT G.length (.mk n ks)) = (K, ⟨v', false, 3, 1, KP.map av⟩) :: (W ++ ohL nm vs (G.length + 1) X) := by
    rw [hfx, ohL, hg3.2, oh_Node, ← hK, ← hP, oh_ints, hvK, hvP.2, ← hW]; simp only [List.append_assoc, List.cons_append, List.nil_append]
   simp +contextual -dsimp (maxSteps := 2000000) only [↓SD, SU, SB, simprocAttr, h29, hL, hG, hS, hlt2, hlt3, Nat.le_refl]
   refine Goes.post ((29, ⟨a, false, 44, 6, G ++ ovL nm va G.length (layT G.length (.mk n ks))⟩) :: ohL nm va G.length (layT G.length (.mk n ks))) ?_
   rw [hov, hoh]
   have hWX : hpLe (W ++ ohL nm vs (G.length + 1) X) (W ++ ohL nm vs (G.length + 1) X) := hpLe_app.2 ⟨hpLe_l hWW, hpLe_pre (ohL_self _ _ _ _) fun p hp q hq e => by
    have h1 := hWs q hq
    obtain ⟨i, hi, h2⟩ := ohL_in hp
    rw [e] at h1
    have := h1.sib h2
    omega⟩
   have hlast : ∀ bx, hpLe ((29, bx) :: H) ((K, ⟨v', false, 3, 1, KP.map av⟩) :: (W ++ ohL nm vs (G.length + 1) X)) := fun bx => by
    refine hpLe_iff.2 fun p hp => ?_
    rcases List.mem_cons.1 hp with e | e
    ·subst e
     rw [hg_ne (by simp only; omega), hH]; exact hg_eq
    ·have hge : 10000 ≤ p.1 := (List.mem_append.1 e).elim (hWg p) (ohL_ge p)
     have hne : K ≠ p.1 := (List.mem_append.1 e).elim (hKW p) (hKX p)
     rw [hg_ne (by omega), hH, hg_ne hne, hget_rest_out (by simp; omega), hg_ne (by omega), hg_ne (by omega)]
     exact hpLe_iff.1 hWX p e
   simp +contextual -dsimp (maxSteps := 2000000) only [↓SD, SU, SB, simprocAttr, false_and]
   have hl2 := hlast ⟨a, false, 44, 6, G ++ .agg [.int .i64 n.kind, .int .i64 n.pos, .int .i64 n.n, .str n.s, .row K v' ks.length, .row P (vp P) n.pats.length] :: ovL nm vs (G.length + 1) X⟩
   rw [hpLe_cons] at hl2
   exact ⟨hl2, a, va, by rw [ec]; exact congrArg (fun z => AV.tup [.row 29 a z, .int .i64 G.length]) (by omega), by rw [hov, hoh]⟩
theorem programOfO_ok (nm : Nat) (ty : List TypeD) (t : Tr) (hok : t.ok) (hb : t.size ≤ 4294967296) (hx : Bulk.bulk ty ≤ 4294967296) : CallsH Tryz.prog 32 [.sl (ty.map av), av t] [] (ToPost nm (⟨ty, layT 0 t⟩ : Program)) := by
 have CF := flatO_ok (sub nm 1) t hok [] .nils [] (.inl ⟨rfl, rfl, rfl⟩) (by simpa using hb)
 unfold FlatPostT at CF
 have hl := layT_len t 0
 simp only [List.length_nil, List.nil_append, Nat.zero_add] at CF
 rw [← hl] at CF
 have CT := copyTypesO_ok (sub nm 0) ty hx
 generalize layT 0 t = L at *
 refine callsH_goes (Post := fun r hp' => ∃ v vs vt, r = .agg [.row (sub nm 0) (vt (sub nm 0)) ty.length, .row 29 v L.length] ∧ hp' = oh (sub nm 0) vt ty ++ ((29, ⟨v, false, 44, 6, ovL (sub nm 1) vs 0 L⟩) :: ohL (sub nm 1) vs 0 L)) (ir_impl_programOf_O.H rfl ?_) ?_
 case refine_2 =>
  rintro r hp' ⟨v, vs, vt, rfl, rfl⟩
  have hb29 : hget (oh (sub nm 0) vt ty ++ ((29, ⟨v, false, 44, 6, ovL (sub nm 1) vs 0 L⟩) :: ohL (sub nm 1) vs 0 L)) 29 = some ⟨v, false, 44, 6, ovL (sub nm 1) vs 0 L⟩ := by
   rw [hg_app_r (oh_ne fun h => by have := h.ge; omega)]; exact hg_eq
  refine Goes.renA 0 1 29 (sub nm 1) (v := v) (n := L.length) rfl rfl hb29 rfl fun v' => ?_
  obtain ⟨va, hva⟩ : ∃ va : Nat → Nat, va = glue (sub nm 0) vt (glue (sub nm 1) (fun k => if k = sub nm 1 then v' else vs k) vs) := ⟨_, rfl⟩
  have hne : ∀ k, InT (sub nm 1) k → ¬ InT (sub nm 0) k := fun k h => sib_ne (by omega) h
  have e1 : oh (sub nm 0) va ty = oh (sub nm 0) vt ty := by rw [hva, oh_glue]
  have e2 : oh (sub nm 1) va L = ohL (sub nm 1) vs 0 L ++ [(sub nm 1, ⟨v', false, OVal.ty Node, AVal.n Node, ovL (sub nm 1) vs 0 L⟩)] := by rw [hva, oh_glue' _ _ _ hne, (oh_full L).2]
  have e3 : va (sub nm 0) = vt (sub nm 0) := by rw [hva, glue_in .root]
  have e4 : va (sub nm 1) = v' := by rw [hva, glue_out (hne _ .root), glue_in .root, if_pos rfl]
  refine Goes.le (t := ⟨[(0, .agg [.row (sub nm 0) (vt (sub nm 0)) ty.length, .row (sub nm 1) v' L.length])], oh (sub nm 0) vt ty ++ (ohL (sub nm 1) vs 0 L ++ [(sub nm 1, ⟨v', false, OVal.ty Node, AVal.n Node, ovL (sub nm 1) vs 0 L⟩)])⟩) ⟨va, by rw [ov_Program, e3, e4]; rfl, by rw [oh_Program, e1, e2]⟩ (by simp +contextual -dsimp only [↓SD, SU, SB, simprocAttr]) ?_
  refine hpLe_app.2 ⟨hpLe_iff.2 fun p hp => ?_, hpLe_app.2 ⟨hpLe_iff.2 fun p hp => ?_, hg_eq, trivial⟩⟩
  ·have hin := OVal.inh hp
   have hge := hin.ge
   rw [hg_ne (fun e : sub nm 1 = p.1 => hne _ .root (by rw [e]; exact hin)), hget_rest_out (by simp; omega)]
   exact hg_app_l (hpLe_iff.1 (OVal.self _ _ _) p hp)
  ·obtain ⟨q, _, hq⟩ := ohL_in hp
   have hge := hq.ge
   rw [hg_ne (fun e => hq.ne e.symm), hget_rest_out (by simp; omega), hg_app_r (oh_ne (hne _ hq.up)), hg_ne (by omega)]
   exact hpLe_iff.1 (ohL_self _ _ _ _) p hp
 simp +contextual -dsimp (maxSteps := 2000000) only [↓SD, SU, SB, simprocAttr, ir_impl_programOf_O, tr_purA]
 intro v4
 refine aCallH_gen [] CF (by simp +contextual -dsimp only [↓SD, SU, SB, simprocAttr]) ?_
 rintro r hp' ⟨v, vs, rfl, rfl⟩ H hH
 rw [hrest_no] at hH
 have h29 : hget H 29 = some ⟨v, false, 44, 6, ovL (sub nm 1) vs 0 L⟩ := by rw [hH]; exact hg_eq
 have h4 : hget H 4 = some ⟨v4, false, 30, 2, [.agg [.nils, .nils]]⟩ := by
  rw [hH, List.cons_append, hg_ne (by decide), hg_app_r (fun p hp => by have := ohL_ge p hp; omega)]; exact hg_eq
 have hHL : hpLe H (ohL (sub nm 1) vs 0 L) := by
  rw [hH]
  exact hpLe_c (hpLe_l (ohL_self _ _ _ _)) (fun p hp e => by have := ohL_ge p hp; omega)
 simp +contextual -dsimp (maxSteps := 2000000) only [↓SD, SU, SB, simprocAttr]
 refine aCallH_gen [] CT (by simp +contextual -dsimp only [↓SD, SU, SB, simprocAttr]) ?_
 rintro r hp' ⟨vt, rfl, rfl⟩ H2 hH2
 rw [hrest_no] at hH2
 have hold := old_get hH2
 have hoT : hpLe H2 (oh (sub nm 0) vt ty) := by rw [hH2]; exact hpLe_l (OVal.self _ _ _)
 have hr := hpLe_root hoT
 have hHL2 : hpLe H2 (ohL (sub nm 1) vs 0 L) := by
  rw [hH2]
  exact hpLe_pre hHL fun p hp q hq e => by
   obtain ⟨i, _, h1⟩ := ohL_in hp
   exact sib_ne (i := 1) (j := 0) (by omega) h1.up (e ▸ OVal.inh hq)
 simp +contextual -dsimp (maxSteps := 2000000) only [↓SD, SU, SB, simprocAttr, ov_list, hold, h29, h4, hr, low_beq, false_and]
 refine Goes.post (oh (sub nm 0) vt ty ++ ((29, ⟨v, false, 44, 6, ovL (sub nm 1) vs 0 L⟩) :: ohL (sub nm 1) vs 0 L)) ?_
 simp +contextual -dsimp (maxSteps := 2000000) only [↓SD, SU, SB, simprocAttr, hold, h29, h4, hr, low_beq, false_and]
 refine ⟨hpLe_app.2 ⟨hpLe_low hoT (by omega), ?_, hpLe_c hHL2 (fun p hp e => by have := ohL_ge p hp; omega)⟩, v, vs, vt, rfl, rfl⟩
 rw [hg_ne (by decide), hold 29 (by decide), h29]
end Go.Proofs.YtjifpdcflankpaaGreat

namespace Go.Proofs.YtjifpdcflankpaaGreat
open Go.RowKit Go.Proofs.YtjifpdcflankpaaGreat.Av Go.Proofs.YtjifpdcflankpaaGreat.Ml
open Go.Proofs.YtjifpdcflankpaaGreat.Av.AVal (av)
open OVal (ov oh on)

theorem coreS_oks {n : Node} : ∀ {ks : List Tr}, (∀ k ∈ ks, ∀ env, (coreS k env).ok) → ∀ i env, Tr.oks (coreSs n i ks env)
 | [], _, i, env => by rw [coreSs, Tr.oks]; trivial
 | t :: ts, h, i, env => by rw [coreSs, Tr.oks]; exact ⟨h t (by simp) _, coreS_oks (fun k hk => h k (by simp [hk])) _ _⟩
theorem coreS_ok : ∀ (t : Tr), t.ok → t.all nodeC → ∀ env, (coreS t env).ok := Tr.ind fun n ks ih hok hc env => by
 rw [Tr.ok] at hok
 rw [Tr.all] at hc
 have hN := coreN_kind n env
 have h1 := coreN_w hc.1 env n.kids.length
 have h2 := bulk_node n
 have h3 := bulk_node (coreN n env)
 rw [hN.2.2.1] at h3
 rw [coreS, Tr.ok, coreSs_len]
 refine ⟨⟨fun h => hok.1.1 (hN.1 ▸ h), fun h => ?_, ?_⟩, coreS_oks (fun k hk => ih k hk (oks_mem hok.2 hk) (alls_mem hc.2 hk)) _ _⟩
 ·rw [hN.2.2.2, List.length_map]; exact hok.1.2.1 (hN.1 ▸ h)
 ·have := hok.1.2.2; omega
theorem coreW_two (t : Tr) (env : List ByteArray) : (∃ t', coreT t env = some t' ∧ coreW t env = .tup [av t', .bool true]) ∨ (coreT t env = none ∧ ∃ x, coreW t env = .tup [x, .bool false]) := by
 unfold coreW
 cases h : coreT t env with
 | some t' => exact .inl ⟨t', rfl, rfl⟩
 | none => obtain ⟨n, ks⟩ := t; exact .inr ⟨rfl, _, rfl⟩
def ToCorePost (nm : Nat) (p : Program) (b : Bool) (r : AV) (hp' : Hp) : Prop := ∃ vs, r = .tup [ov nm vs p, .bool b] ∧ hp' = oh nm vs p
theorem implToCore_ok (nm : Nat) (p : Program) (hx : Bulk.bulk p ≤ 4294967296) : CallsH Tryz.prog 10 [av p] [] (ToCorePost nm (toCoreR p) (toCoreB p)) := by
 have hno : toCoreO p = none → CallsH Tryz.prog 10 [av p] [] (fun r hp' => r = .tup [.agg [.nils, .nils], .bool false] ∧ hp' = []) → CallsH Tryz.prog 10 [av p] [] (ToCorePost nm (toCoreR p) (toCoreB p)) := fun ho h => callsH_goes h fun r hp' hr => by
  obtain ⟨rfl, rfl⟩ := hr
  rw [toCoreR, toCoreB, ho, show (none : Option Program).getD ⟨[], []⟩ = ⟨[], []⟩ from rfl]
  refine Goes.newT 0 0 0 (sub nm 0) 74 3 rfl rfl rfl fun u => ?_
  refine Goes.newT 0 0 1 (sub nm 1) 44 6 rfl rfl rfl fun v => ?_
  have hne : sub nm 1 ≠ sub nm 0 := fun e => by have := (sub_inj e).2; omega
  refine Goes.le (t := ⟨[(0, .tup [.agg [.row (sub nm 0) u 0, .row (sub nm 1) v 0], .bool false])], [(sub nm 0, ⟨u, false, 74, 3, []⟩), (sub nm 1, ⟨v, false, 44, 6, []⟩)]⟩) ⟨fun q => if q = sub nm 0 then u else v, ?_, ?_⟩ (by simp +contextual -dsimp only [↓SD, SU, SB, simprocAttr]) ⟨?_, hg_eq, trivial⟩
  ·rw [ov_Program, if_pos rfl, if_neg hne]; rfl
  ·rw [oh_Program, oh_list, oh_list, ohL_nil, lbox, lbox, if_pos rfl, if_neg hne]; rfl
  ·rw [hg_ne hne]; exact hg_eq
 obtain ⟨q1, q2, q3, q4⟩ := prog_small hx
 have C := implProgramOk_ok p hx
 rw [av_Program] at C
 cases hb : progB p with
 | false =>
  rw [hb] at C
  refine hno (by rw [toCoreO, if_neg (by rw [hb]; simp)]) (ir_impl_ToCore_H.H rfl ?_)
  simp +contextual -dsimp (maxSteps := 2000000) only [↓SD, SU, SB, simprocAttr, ir_impl_ToCore_H, av_Program]
  intro v2
  refine aCallK_of _ C ?_
  simp +contextual -dsimp (maxSteps := 2000000) only [↓SD, SU, SB, simprocAttr]
  refine Goes.post [] ?_
  simp +contextual -dsimp (maxSteps := 2000000) only [↓SD, SU, SB, simprocAttr]
 | true =>
  rw [hb] at C
  obtain ⟨h1, h2, h3, h4, h5, h6⟩ := tree_facts hx hb
  obtain ⟨f1, f2, f3, f4, f5⟩ := prog_facts hx hb
  have hk : ∀ i, i < p.nodes.length → ∀ k ∈ nkids p.nodes i, (i : Int) < k ∧ k < p.nodes.length := fun i hi k hk => tree_in f3 hi hk
  have G := grow_ok p.nodes hk q2 f5 p.nodes.length 0 (by omega) (by omega)
  rw [show growT p.nodes p.nodes.length 0 = treeAt p.nodes 0 from rfl] at G
  have K := callsF_argNil (a := [av (treeAt p.nodes 0)]) (b := []) (core_ok _ h1 h3 [] (by simp only [List.length_nil]; omega))
  have hcs := coreT_as _ h1 h2 []
  rcases coreW_two (treeAt p.nodes 0) [] with ⟨t', ht, hW⟩ | ⟨ht, x, hW⟩
  ·rw [hW] at K
   have hS : t' = coreS (treeAt p.nodes 0) [] := by
    rw [ht] at hcs
    split at hcs
    ·exact Option.some.inj hcs
    ·cases hcs
   have hok : t'.ok := by rw [hS]; exact coreS_ok _ h1 h2 []
   have hsz : t'.size ≤ 4294967296 := by rw [hS, coreS_size]; omega
   have hO : toCoreO p = some ⟨p.types, layT 0 t'⟩ := by rw [toCoreO, if_pos hb, ht]; rfl
   have hR : toCoreR p = ⟨p.types, layT 0 t'⟩ := by rw [toCoreR, hO]; rfl
   have hB : toCoreB p = true := by rw [toCoreB, hO]; rfl
   have PO := programOfO_ok nm p.types t' hok hsz q1
   rw [hR, hB]
   refine ir_impl_ToCore_H.H rfl ?_
   clear hcs hW hO hR hB hS ht
   generalize treeAt p.nodes 0 = T at *
   simp +contextual -dsimp (maxSteps := 2000000) only [↓SD, SU, SB, simprocAttr, ir_impl_ToCore_H, av_Program]
   intro v2
   refine aCallK_of _ C ?_
   simp +contextual -dsimp (maxSteps := 2000000) only [↓SD, SU, SB, simprocAttr]
   refine aCallK_of _ G ?_
   simp +contextual -dsimp (maxSteps := 2000000) only [↓SD, SU, SB, simprocAttr, tr_purA]
   refine aCallK_of _ K ?_
   simp +contextual -dsimp (maxSteps := 2000000) only [↓SD, SU, SB, simprocAttr, tr_purA]
   refine aCallH_gen [] PO (by simp +contextual -dsimp only [↓SD, SU, SB, simprocAttr, tr_purA]) ?_
   rintro r hp' ⟨vs, rfl, rfl⟩ H hH
   rw [hrest_no] at hH
   generalize layT 0 t' = L at *
   have l0 : hpLe H (oh nm vs (⟨p.types, L⟩ : Program)) := by rw [hH]; exact hpLe_l (OVal.self _ _ _)
   have l0' := l0
   rw [oh_Program, hpLe_app] at l0'
   have r0 := hpLe_root l0'.1
   have r1 := hpLe_root l0'.2
   have h2 : hget H 2 = some ⟨v2, false, 30, 2, [.agg [.nils, .nils]]⟩ := by
    rw [hH, oh_Program, hg_app_r (fun q hq e => by
     rcases List.mem_append.1 hq with h | h
     ·have := (OVal.inh h).ge; omega
     ·have := (OVal.inh h).ge; omega)]
    exact hg_eq
   simp +contextual -dsimp (maxSteps := 2000000) only [↓SD, SU, SB, simprocAttr, ov_Program, h2, r0, r1, low_beq, false_and]
   refine Goes.post (oh nm vs (⟨p.types, L⟩ : Program)) ?_
   simp +contextual -dsimp (maxSteps := 2000000) only [↓SD, SU, SB, simprocAttr, r0, r1, low_beq, false_and]
   refine ⟨?_, vs, by rw [ov_Program], rfl⟩
   rw [oh_Program] at l0 ⊢
   exact hpLe_c l0 (fun q hq e => by
    rcases List.mem_append.1 hq with h | h
    ·have := (OVal.inh h).ge; omega
    ·have := (OVal.inh h).ge; omega)
  ·rw [hW] at K
   refine hno (by rw [toCoreO, if_pos hb, ht]; rfl) (ir_impl_ToCore_H.H rfl ?_)
   simp +contextual -dsimp (maxSteps := 2000000) only [↓SD, SU, SB, simprocAttr, ir_impl_ToCore_H, av_Program]
   intro v2
   refine aCallK_of _ C ?_
   simp +contextual -dsimp (maxSteps := 2000000) only [↓SD, SU, SB, simprocAttr]
   refine aCallK_of _ G ?_
   simp +contextual -dsimp (maxSteps := 2000000) only [↓SD, SU, SB, simprocAttr, tr_purA]
   refine aCallK_of _ K ?_
   simp +contextual -dsimp (maxSteps := 2000000) only [↓SD, SU, SB, simprocAttr, tr_purA]
   refine Goes.post [] ?_
   simp +contextual -dsimp (maxSteps := 2000000) only [↓SD, SU, SB, simprocAttr]
theorem specToCore_ok (p : Program) (hx : Bulk.bulk p ≤ 4294967296) : CallsF Tryz.prog 8 [av p] (.tup [av (toCoreR p), .bool (toCoreB p)]) := by
 have hno : toCoreO p = none → CallsF Tryz.prog 8 [av p] (.tup [.agg [.nils, .nils], .bool false]) → CallsF Tryz.prog 8 [av p] (.tup [av (toCoreR p), .bool (toCoreB p)]) := fun ho h => by
  rw [toCoreR, toCoreB, ho, show (none : Option Program).getD ⟨[], []⟩ = ⟨[], []⟩ from rfl, av_Program]
  refine callsF_weaker h fun S w v h => ?_
  have := Av.VR.tupSet (off := 0) (y := .agg [.sl [], .sl []]) h (fun x u hx hu => by
   cases hx
   have h1 := Av.VR.aggSet (off := 0) (y := .sl []) hu rfl (fun x u hx hu => by cases hx; cases hu; exact .sl0 none 0 (Nat.zero_le _))
   exact Av.VR.aggSet (off := 1) (y := .sl []) h1 rfl (fun x u hx hu => by cases hx; cases hu; exact .sl0 none 0 (Nat.zero_le _)))
  exact this
 have hpn : AvPure (.tup [.agg [.nils, .nils], .bool false]) := AvPure.tup (by simp; exact ⟨AvPure.agg (by simp; exact AvPure.nils), AvPure.bool _⟩)
 obtain ⟨q1, q2, q3, q4⟩ := prog_small hx
 have C := specProgramOk_ok p hx
 rw [av_Program] at C
 cases hb : progB p with
 | false =>
  rw [hb] at C
  refine hno (by rw [toCoreO, if_neg (by rw [hb]; simp)]) (ir_spec_ToCore.F rfl (by simp; exact AVal.clean p) hpn ?_)
  simp +contextual -dsimp (maxSteps := 2000000) only [↓SD, SU, SB, simprocAttr, ir_spec_ToCore, av_Program]
  intro v2
  refine aCallK_of _ C ?_
  simp +contextual -dsimp (maxSteps := 2000000) only [↓SD, SU, SB, simprocAttr]
 | true =>
  rw [hb] at C
  obtain ⟨h1, h2, h3, h4, h5, h6⟩ := tree_facts hx hb
  obtain ⟨f1, f2, f3, f4, f5⟩ := prog_facts hx hb
  have hk : ∀ i, i < p.nodes.length → ∀ k ∈ nkids p.nodes i, (i : Int) < k ∧ k < p.nodes.length := fun i hi k hk => tree_in f3 hi hk
  have G := l09Sub_ok p hk q2 p.nodes.length 0 (by omega) (by omega)
  rw [show growT p.nodes p.nodes.length 0 = treeAt p.nodes 0 from rfl, av_Program] at G
  have K := callsF_argNil (a := [av (Sub.mk (treeAt p.nodes 0))]) (b := []) (l15Core_ok _ h1 [] (by simp only [List.length_nil]; omega))
  have hO := toCore_as hx hb
  cases hB : coreB (treeAt p.nodes 0) [] with
  | false =>
   rw [hB] at hO K
   refine hno (by rw [hO]; rfl) (ir_spec_ToCore.F rfl (by simp; exact AVal.clean p) hpn ?_)
   generalize coreS (treeAt p.nodes 0) [] = T' at *
   generalize treeAt p.nodes 0 = T at *
   simp +contextual -dsimp (maxSteps := 2000000) only [↓SD, SU, SB, simprocAttr, ir_spec_ToCore, av_Program]
   intro v2
   refine aCallK_of _ C ?_
   simp +contextual -dsimp (maxSteps := 2000000) only [↓SD, SU, SB, simprocAttr]
   refine aCallK_of _ G ?_
   simp +contextual -dsimp (maxSteps := 2000000) only [↓SD, SU, SB, simprocAttr, sub_purA]
   refine aCallK_of _ K ?_
   simp +contextual -dsimp (maxSteps := 2000000) only [↓SD, SU, SB, simprocAttr, sub_purA, sub_len, sub_agg, sub_pur, sub_ok]
  | true =>
   rw [hB] at hO K
   have hR : toCoreR p = ⟨p.types, layT 0 (coreS (treeAt p.nodes 0) [])⟩ := by rw [toCoreR, hO]; rfl
   have hBB : toCoreB p = true := by rw [toCoreB, hO]; rfl
   have hsz : (coreS (treeAt p.nodes 0) []).size ≤ 4294967296 := by rw [coreS_size]; omega
   rw [hR, hBB]
   have CT := l15Types_ok p.types q1
   have CL := l03LayF_ok _ hsz
   refine ir_spec_ToCore.F rfl (by simp; exact AVal.clean p) (AvPure.tup (by simp; exact ⟨AVal.clean _, AvPure.bool _⟩)) ?_
   clear hO hB hR hBB
   generalize coreS (treeAt p.nodes 0) [] = T' at *
   generalize treeAt p.nodes 0 = T at *
   have hlm : ∀ hp, ((layT 0 T').map (av : Node → AV)).map (AV.pur hp) = (layT 0 T').map av := fun hp => map_nop _ hp
   have htm : ∀ hp, (p.types.map (av : TypeD → AV)).map (AV.pur hp) = p.types.map av := fun hp => map_nop _ hp
   simp +contextual -dsimp (maxSteps := 2000000) only [↓SD, SU, SB, simprocAttr, ir_spec_ToCore, av_Program]
   intro v2
   refine aCallK_of _ C ?_
   simp +contextual -dsimp (maxSteps := 2000000) only [↓SD, SU, SB, simprocAttr]
   refine aCallK_of _ G ?_
   simp +contextual -dsimp (maxSteps := 2000000) only [↓SD, SU, SB, simprocAttr, sub_purA]
   refine aCallK_of _ K ?_
   simp +contextual -dsimp (maxSteps := 2000000) only [↓SD, SU, SB, simprocAttr, sub_purA, sub_len, sub_agg, sub_pur, sub_ok]
   intro v4
   refine aCallK_of _ CT ?_
   simp +contextual -dsimp (maxSteps := 2000000) only [↓SD, SU, SB, simprocAttr, sub_purA, sub_len, sub_agg, sub_pur, sub_ok]
   refine aCallK_of _ CL ?_
   simp +contextual -dsimp (maxSteps := 2000000) only [↓SD, SU, SB, simprocAttr, hlm, htm]
end Go.Proofs.YtjifpdcflankpaaGreat

namespace Go.Proofs.YtjifpdcflankpaaGreat
open Go.RowKit Go.Proofs.YtjifpdcflankpaaGreat.Av Go.Proofs.YtjifpdcflankpaaGreat.Ml
open Go.Proofs.YtjifpdcflankpaaGreat.Av.AVal (av)

theorem l01Digits_ok (k : Nat) : k ≤ 9223372036854775808 → CallsF Tryz.prog 186 [.int .i64 (-(k : Int))] (.str (digS k)) := by
 induction k using Nat.strongRecOn with
 | _ k ih =>
  intro hk
  refine ir_spec_l01Digits.F rfl (by simp; exact pint _) (AvPure.str _) ?_
  by_cases h10 : k < 10
  ·have h1 : -10 < -(k : Int) := by omega
   have h2 : (48 : Int) - -(k : Int) = ((48 + k : Nat) : Int) := by omega
   rw [digS_small h10]
   simp +contextual -dsimp only [↓SD, SU, SB, Nat.reduceAdd, Nat.reduceBEq, Nat.reduceEqDiff, Nat.reduceLeDiff, Nat.reduceLT, Nat.reduceSub, ↓reduceIte, reduceCtorEq, Int.reduceToNat, Int.reduceEq, Int.reduceLT, Int.reduceLE, Int.reduceNeg, Int.reduceAdd, Int.reduceSub, ir_spec_l01Digits, h1]
   refine ⟨by omega, by omega, ?_⟩
   refine b2s_of _ _ [UInt8.ofNat (48 + k)] rfl (by rw [List.map_cons, List.map_nil, av_byte _ (by omega), ← h2]) ?_
   simp +contextual -dsimp only [↓SD, SU, SB, Nat.reduceAdd, Nat.reduceBEq, Nat.reduceEqDiff, Nat.reduceLeDiff, Nat.reduceLT, Nat.reduceSub, ↓reduceIte, reduceCtorEq, Int.reduceToNat]
  ·have h1 : ¬ -10 < -(k : Int) := by omega
   have h2 : (-(k : Int)).tdiv 10 = -((k / 10 : Nat) : Int) := by rw [Int.neg_tdiv, Int.tdiv_eq_ediv_of_nonneg (by omega)]; rfl
   have h3 : (-(k : Int)).tmod 10 = -((k % 10 : Nat) : Int) := by rw [Int.neg_tmod, Int.tmod_eq_emod_of_nonneg (by omega)]; rfl
   have h4 : (48 : Int) - -((k % 10 : Nat) : Int) = ((48 + k % 10 : Nat) : Int) := by omega
   have C := ih (k / 10) (by omega) (by omega)
   have hs := digS_le (k / 10) (by omega)
   rw [digS_great h10]
   simp +contextual -dsimp only [↓SD, SU, SB, Nat.reduceAdd, Nat.reduceBEq, Nat.reduceEqDiff, Nat.reduceLeDiff, Nat.reduceLT, Nat.reduceSub, ↓reduceIte, reduceCtorEq, Int.reduceToNat, Int.reduceEq, Int.reduceLT, Int.reduceLE, Int.reduceNeg, Int.reduceAdd, Int.reduceSub, ir_spec_l01Digits, h1, h2, h3]
   refine ⟨by omega, ?_⟩
   refine aCallK_of _ C ?_
   simp +contextual -dsimp only [↓SD, SU, SB, Nat.reduceAdd, Nat.reduceBEq, Nat.reduceEqDiff, Nat.reduceLeDiff, Nat.reduceLT, Nat.reduceSub, ↓reduceIte, reduceCtorEq, Int.reduceToNat, Int.reduceEq, Int.reduceLT, Int.reduceLE, Int.reduceNeg, Int.reduceAdd, Int.reduceSub, h3, h4]
   refine ⟨by omega, by omega, by omega, ?_⟩
   refine b2s_of _ _ [UInt8.ofNat (48 + k % 10)] rfl (by rw [List.map_cons, List.map_nil, av_byte _ (by omega)]) ?_
   simp +contextual -dsimp only [↓SD, SU, SB, Nat.reduceAdd, Nat.reduceBEq, Nat.reduceEqDiff, Nat.reduceLeDiff, Nat.reduceLT, Nat.reduceSub, ↓reduceIte, reduceCtorEq, Int.reduceToNat]
   have h5 : (⟨[UInt8.ofNat (48 + k % 10)].toArray⟩ : ByteArray).size = 1 := rfl
   unfold maxLen; omega
theorem wrap_id (n : Int) (h : -9223372036854775808 ≤ n ∧ n ≤ 9223372036854775807) : (IntKind.i64.wrap (n * 2) / 2 = n) ↔ (-4611686018427387904 ≤ n ∧ n ≤ 4611686018427387903) := by
 rw [IntKind.wrap_i64]
 omega
theorem specWrap_ok (n : Int) (h : -9223372036854775808 ≤ n ∧ n ≤ 9223372036854775807) : CallsF Tryz.prog 185 [.int .i64 n] (.int .i64 (IntKind.i64.wrap (n * 2) / 2)) := by
 refine ir_spec_Wrap.F rfl (by simp; exact pint _) (pint _) ?_
 have e1 : min 1 IntKind.i64.bits = 1 := rfl
 have e2 : ∀ x : Int, x.fdiv (2 ^ 1) = x / 2 := fun x => by rw [Int.fdiv_eq_ediv_of_nonneg _ (by decide)]; rfl
 have e3 : n * 2 ^ 1 = n * 2 := rfl
 simp +contextual -dsimp only [↓SD, SU, SB, Nat.reduceAdd, Nat.reduceBEq, Nat.reduceEqDiff, Nat.reduceLeDiff, Nat.reduceLT, Nat.reduceSub, ↓reduceIte, reduceCtorEq, Int.reduceToNat, Int.reduceEq, Int.reduceLT, Int.reduceLE, Int.reduceNeg, Int.reduceAdd, Int.reduceSub, ir_spec_Wrap, e1, e2, e3]
 rw [IntKind.wrap_i64]
 omega
theorem specNumText_ok (n : Int) (hn : -9223372036854775808 ≤ n ∧ n ≤ 9223372036854775807) : CallsF Tryz.prog 171 [.int .i64 n] (.str (numS n)) := by
 refine ir_spec_NumText.F rfl (by simp; exact pint _) (AvPure.str _) ?_
 have C := specWrap_ok n hn
 have W := wrap_id n hn
 simp +contextual -dsimp only [↓SD, SU, SB, Nat.reduceAdd, Nat.reduceBEq, Nat.reduceEqDiff, Nat.reduceLeDiff, Nat.reduceLT, Nat.reduceSub, ↓reduceIte, reduceCtorEq, Int.reduceToNat, Int.reduceEq, Int.reduceLT, Int.reduceLE, Int.reduceNeg, Int.reduceAdd, Int.reduceSub, ir_spec_NumText]
 refine aCallK_of _ C ?_
 by_cases hin : -4611686018427387904 ≤ n ∧ n ≤ 4611686018427387903
 ·have hw := W.2 hin
  by_cases h0 : n < 0
  ·have hS : numS n = ⟨#[45]⟩ ++ digS (-n).toNat := by unfold numS; rw [if_pos hin, if_pos h0]
   obtain ⟨k, rfl⟩ : ∃ k : Nat, n = -(k : Int) := ⟨(-n).toNat, by omega⟩
   have hs := digS_le k (by omega)
   have hk : (-(-(k : Int))).toNat = k := by omega
   rw [hS, hk]
   simp +contextual -dsimp only [↓SD, SU, SB, Nat.reduceAdd, Nat.reduceBEq, Nat.reduceEqDiff, Nat.reduceLeDiff, Nat.reduceLT, Nat.reduceSub, ↓reduceIte, reduceCtorEq, Int.reduceToNat, Int.reduceEq, Int.reduceLT, Int.reduceLE, Int.reduceNeg, Int.reduceAdd, Int.reduceSub, hw, h0]
   refine aCallK_of _ (l01Digits_ok k (by omega)) ?_
   have hb : bs [45] = (⟨#[45]⟩ : ByteArray) := rfl
   simp +contextual -dsimp only [↓SD, SU, SB, Nat.reduceAdd, Nat.reduceBEq, Nat.reduceEqDiff, Nat.reduceLeDiff, Nat.reduceLT, Nat.reduceSub, ↓reduceIte, reduceCtorEq, Int.reduceToNat, Int.reduceEq, Int.reduceLT, Int.reduceLE, Int.reduceNeg, Int.reduceAdd, Int.reduceSub, hb]
   have h1 : (⟨#[45]⟩ : ByteArray).size = 1 := rfl
   unfold maxLen; omega
  ·have hS : numS n = digS n.toNat := by unfold numS; rw [if_pos hin, if_neg h0]
   obtain ⟨k, rfl⟩ : ∃ k : Nat, n = (k : Int) := ⟨n.toNat, by omega⟩
   rw [hS, Int.toNat_natCast]
   simp +contextual -dsimp only [↓SD, SU, SB, Nat.reduceAdd, Nat.reduceBEq, Nat.reduceEqDiff, Nat.reduceLeDiff, Nat.reduceLT, Nat.reduceSub, ↓reduceIte, reduceCtorEq, Int.reduceToNat, Int.reduceEq, Int.reduceLT, Int.reduceLE, Int.reduceNeg, Int.reduceAdd, Int.reduceSub, hw, h0]
   refine ⟨by omega, ?_⟩
   refine aCallK_of _ (l01Digits_ok k (by omega)) ?_
   simp +contextual -dsimp only [↓SD, SU, SB, Nat.reduceAdd, Nat.reduceBEq, Nat.reduceEqDiff, Nat.reduceLeDiff, Nat.reduceLT, Nat.reduceSub, ↓reduceIte, reduceCtorEq, Int.reduceToNat, Int.reduceEq, Int.reduceLT, Int.reduceLE, Int.reduceNeg, Int.reduceAdd, Int.reduceSub]
 ·have hw : ¬ IntKind.i64.wrap (n * 2) / 2 = n := fun h => hin (W.1 h)
  have hS : numS n = ⟨#[]⟩ := by unfold numS; rw [if_neg hin]
  rw [hS]
  simp +contextual -dsimp only [↓SD, SU, SB, Nat.reduceAdd, Nat.reduceBEq, Nat.reduceEqDiff, Nat.reduceLeDiff, Nat.reduceLT, Nat.reduceSub, ↓reduceIte, reduceCtorEq, Int.reduceToNat, Int.reduceEq, Int.reduceLT, Int.reduceLE, Int.reduceNeg, Int.reduceAdd, Int.reduceSub, hw]
  first | done | rfl

structure DS where
 m : Nat
 l : List UInt8
 v : Nat
end Go.Proofs.YtjifpdcflankpaaGreat

namespace Go.Proofs.YtjifpdcflankpaaGreat
open Go.RowKit Go.Proofs.YtjifpdcflankpaaGreat.Av Go.Proofs.YtjifpdcflankpaaGreat.Ml
open Go.Proofs.YtjifpdcflankpaaGreat.Av.AVal (av)

def renK (f : Nat → ByteArray) : Nat → List PNode → List PNode
 | _, [] => []
 | c, n :: r => if n.kind = 2 then { n with s := f c } :: renK f (c + 1) r else n :: renK f c r
def renF (f : Nat → ByteArray) (q : Pat) : Pat := ⟨renK f 0 q.nodes⟩
/-! ### trees with the kids that they have when they are laid -/
theorem coreN_kids (n : Node) (K : List Int) (env : List ByteArray) : coreN { n with kids := K } env = { coreN n env with kids := K } := by
 unfold coreN
 dsimp only
 split
 ·split <;> rfl
 ·rfl
theorem kidT_coreSs (n : Node) (env : List ByteArray) : ∀ (ks : List Tr) (b i : Nat), kidT b (coreSs n i ks env) = kidT b ks
 | [], b, i => by rw [coreSs]
 | t :: ts, b, i => by rw [coreSs, kidT, kidT, coreS_size, kidT_coreSs n env ts]
end Go.Proofs.YtjifpdcflankpaaGreat

namespace Go.Proofs.YtjifpdcflankpaaGreat
open Go.RowKit Go.Proofs.YtjifpdcflankpaaGreat.Av Go.Proofs.YtjifpdcflankpaaGreat.Ml
open Go.Proofs.YtjifpdcflankpaaGreat.Av.AVal (av)

/-! ### nodes one by one -/
theorem lays_core {n : Node} {env : List ByteArray} : ∀ {ks : List Tr}, (∀ k ∈ ks, ∀ (b : Nat) (env : List ByteArray) (i : Nat) (m : Node), (layT b k)[i]? = some m → ∃ e, (layT b (coreS k env))[i]? = some (coreN m e)) →
  ∀ (b j i : Nat) (m : Node), (layTs b ks)[i]? = some m → ∃ e, (layTs b (coreSs n j ks env))[i]? = some (coreN m e)
 | [], _, b, j, i, m, h => by rw [layTs] at h; cases h
 | t :: ts, ih, b, j, i, m, h => by
  rw [layTs] at h
  rw [coreSs, layTs]
  have l1 := layT_len t b
  have l2 := layT_len (coreS t (innerE n j env)) b
  rw [coreS_size] at l2 ⊢
  by_cases hi : i < t.size
  ·rw [List.getElem?_append_left (by omega)] at h
   obtain ⟨e, he⟩ := ih t (by simp) b (innerE n j env) i m h
   exact ⟨e, by rw [List.getElem?_append_left (by omega)]; exact he⟩
  ·rw [List.getElem?_append_right (by omega)] at h
   obtain ⟨e, he⟩ := lays_core (fun k hk => ih k (by simp [hk])) (b + t.size) (j + 1) _ m h
   rw [l1] at he
   exact ⟨e, by rw [List.getElem?_append_right (by omega), l2]; exact he⟩
theorem lay_core : ∀ (t : Tr) (b : Nat) (env : List ByteArray) (i : Nat) (m : Node), (layT b t)[i]? = some m → ∃ e, (layT b (coreS t env))[i]? = some (coreN m e) := Tr.ind fun n ks ih b env i m h => by
 rw [layT] at h
 rw [coreS, layT]
 cases i with
 | zero =>
  simp only [List.getElem?_cons_zero, Option.some.injEq] at h ⊢
  subst h
  refine ⟨env, ?_⟩
  have h2 := coreN_kids n (kidT (b + 1) ks) env
  rw [kidT_coreSs]
  exact h2.symm
 | succ i =>
  rw [List.getElem?_cons_succ] at h ⊢
  exact lays_core ih _ _ _ _ h
end Go.Proofs.YtjifpdcflankpaaGreat

namespace Go.Proofs.YtjifpdcflankpaaGreat
open Go.RowKit Go.Proofs.YtjifpdcflankpaaGreat.Av Go.Proofs.YtjifpdcflankpaaGreat.Ml
open Go.Proofs.YtjifpdcflankpaaGreat.Av.AVal (av)

def zpN (n : Node) : Node := { n with pos := 0 }
theorem toCoreB_prog {p : Program} (h : toCoreB p = true) : progB p = true := by
 cases hb : progB p with
 | true => rfl
 | false => rw [toCoreB, toCoreO, if_neg (by rw [hb]; simp)] at h; cases h
theorem core_pos {l : List Node} {t : Tr} {env : List ByteArray} (h : layT 0 (coreS t env) = l) : ∀ m ∈ l, ∃ n e, n ∈ layT 0 t ∧ m = coreN n e := by
 intro m hm
 obtain ⟨i, hi, rfl⟩ := List.getElem_of_mem hm
 have h1 := layT_len t 0
 have h2 := layT_len (coreS t env) 0
 rw [coreS_size, h] at h2
 have h3 : i < (layT 0 t).length := by omega
 obtain ⟨e, he⟩ := lay_core t 0 env i _ (List.getElem?_eq_getElem h3)
 rw [h, List.getElem?_eq_getElem hi] at he
 exact ⟨_, e, List.getElem_mem h3, Option.some.inj he⟩
theorem map_zp {l : List Node} (h : ∀ n ∈ l, n.pos = 0) : l.map zpN = l := by
 refine (List.map_congr_left (g := id) fun n hn => ?_).trans (List.map_id l)
 have := h n hn
 obtain ⟨a, b, c, d, e, f⟩ := n
 simp only at this
 subst this
 rfl
end Go.Proofs.YtjifpdcflankpaaGreat

namespace Go.Proofs.YtjifpdcflankpaaGreat
open Go.RowKit Go.Proofs.YtjifpdcflankpaaGreat.Av Go.Proofs.YtjifpdcflankpaaGreat.Ml
open Go.Proofs.YtjifpdcflankpaaGreat.Av.AVal (av)

mutual
def Tr.e3 : Tr → Prop
 | .mk n ks => (n.kind = 3 → n.pats = []) ∧ Tr.e3s ks
def Tr.e3s : List Tr → Prop
 | [] => True
 | t :: ts => t.e3 ∧ Tr.e3s ts
end
end Go.Proofs.YtjifpdcflankpaaGreat

namespace Go.Proofs.YtjifpdcflankpaaGreat
open Go.RowKit Go.Proofs.YtjifpdcflankpaaGreat.Av Go.Proofs.YtjifpdcflankpaaGreat.Ml
open Go.Proofs.YtjifpdcflankpaaGreat.Av.AVal (av)

def eqF {α : Type} (p : α → α → Bool) : List α → List α → Bool
 | [], [] => true
 | a :: l, b :: m => p a b && eqF p l m
 | _, _ => false
theorem eqF_len {α : Type} {p : α → α → Bool} : ∀ {l m : List α}, l.length ≠ m.length → eqF p l m = false
 | [], [], h => absurd rfl h
 | [], b :: m, _ => rfl
 | a :: l, [], _ => rfl
 | a :: l, b :: m, h => by rw [eqF, eqF_len (fun e => h (by simp [e])), Bool.and_false]
theorem eqF_step {α : Type} {p : α → α → Bool} (l m : List α) (k : Nat) (h : k < l.length) (h2 : k < m.length) : eqF p (l.drop k) (m.drop k) = (p l[k] m[k] && eqF p (l.drop (k + 1)) (m.drop (k + 1))) := by
 rw [List.drop_eq_getElem_cons h, List.drop_eq_getElem_cons h2, eqF]
theorem eqF_dec {α β : Type} [DecidableEq β] {p : α → α → Bool} {f : α → β} (hp : ∀ x y, p x y = decide (f x = f y)) : ∀ l m : List α, eqF p l m = decide (l.map f = m.map f)
 | [], [] => by simp [eqF]
 | [], b :: m => by simp [eqF]
 | a :: l, [] => by simp [eqF]
 | a :: l, b :: m => by rw [eqF, hp, eqF_dec hp l m]; simp [Bool.decide_and]
theorem eqF_eq {α : Type} [DecidableEq α] (l m : List α) : eqF (fun x y => decide (x = y)) l m = decide (l = m) := by
 have h := eqF_dec (f := id) (p := fun x y : α => decide (x = y)) (fun _ _ => rfl) l m
 rwa [List.map_id, List.map_id] at h
theorem EqualInt_ok (l m : List Int) (hl : l.length ≤ 4503599627370496) (hm : m.length ≤ 4503599627370496) : CallsF Tryz.prog 98 [.sl (l.map av), .sl (m.map av)] (.bool (decide (l = m))) := by
 refine ir_slices_Equal_int_int.F rfl (by simp; exact ⟨lav_clean l, lav_clean m⟩) (AvPure.bool _) ?_
 by_cases hne2 : l.length = m.length
 ·simp +contextual -dsimp (maxSteps := 2000000) only [↓SD, SU, SB, simprocAttr, ir_slices_Equal_int_int, map_len, hne2]
  refine aLoop_of (X := Nat) (fun k => ⟨[(0, .sl (l.map av)), (1, .sl (m.map av)), (12, .int .i64 m.length), (13, .int .i64 k)], []⟩) (fun k => k ≤ l.length ∧ l.take k = m.take k) (fun k => l.length - k) 0 ⟨Nat.zero_le _, rfl⟩ (by simp +contextual -dsimp only [↓SD, SU, SB, simprocAttr]) trivial ?_
  intro k ⟨hk, hp⟩
  by_cases hlt : k < l.length
  ·have e1 := getD_map av l k .top hlt
   have hlt2 : k < m.length := by omega
   have e2 := getD_map av m k .top hlt2
   have hst : l[k] = m[k] → l.take (k + 1) = m.take (k + 1) := fun e => by rw [List.take_succ_eq_append_getElem hlt, List.take_succ_eq_append_getElem hlt2, hp, e]
   have hno : l[k] ≠ m[k] → decide (l = m) = false := fun e => decide_eq_false fun h => e (by simp only [h])
   generalize l[k] = a at *
   generalize m[k] = b at *
   by_cases hab : a = b
   ·subst hab
    simp +contextual -dsimp (maxSteps := 2000000) only [↓SD, SU, SB, simprocAttr, map_len, hlt, hlt2, e1, e2, av_int]
    exact ⟨by omega, Goes.le ⟨k + 1, ⟨⟨hlt, hst rfl⟩, (by first | omega | (simp only; omega))⟩, rfl⟩ (by simp +contextual -dsimp only [↓SD, SU, SB, simprocAttr, Int.natCast_add]) trivial⟩
   ·simp +contextual -dsimp (maxSteps := 2000000) only [↓SD, SU, SB, simprocAttr, map_len, hlt, hlt2, e1, e2, av_int, hab, hno hab]
  ·obtain rfl : k = l.length := by omega
   rw [List.take_length, hne2, List.take_length] at hp
   simp +contextual -dsimp (maxSteps := 2000000) only [↓SD, SU, SB, simprocAttr, map_len, hne2, Nat.lt_irrefl, hp, decide_true]
 ·have hne3 : decide (l = m) = false := decide_eq_false fun h => hne2 (by rw [h])
  simp +contextual -dsimp (maxSteps := 2000000) only [↓SD, SU, SB, simprocAttr, ir_slices_Equal_int_int, map_len, hne2, hne3]
theorem EqualFunc_Node_ok (l m : List Node) (g : FuncId) (p : Node → Node → Bool) (hl : l.length ≤ 1099511627776) (hm : m.length ≤ 1099511627776) (hg : ∀ x ∈ l, ∀ y ∈ m, CallsF Tryz.prog g [av x, av y] (.bool (p x y))) :
  CallsF Tryz.prog 96 [.sl (l.map av), .sl (m.map av), .fn g []] (.bool (eqF p l m)) := by
 refine ir_slices_EqualFunc_impl_Node_impl_Node_impl_Node_impl_Node.F rfl (by simp; exact ⟨lav_clean l, lav_clean m, AvPure.fn (by simp)⟩) (AvPure.bool _) ?_
 by_cases hne2 : l.length = m.length
 ·simp +contextual -dsimp (maxSteps := 2000000) only [↓SD, SU, SB, simprocAttr, ir_slices_EqualFunc_impl_Node_impl_Node_impl_Node_impl_Node, map_len, hne2, List.map_nil]
  refine aLoop_of (X := Nat) (fun k => ⟨[(1, .sl (m.map av)), (2, .fn g []), (15, .sl (l.map av)), (16, .int .i64 m.length), (17, .int .i64 k)], []⟩) (fun k => k ≤ l.length ∧ eqF p l m = eqF p (l.drop k) (m.drop k)) (fun k => l.length - k) 0 ⟨Nat.zero_le _, rfl⟩ (by simp +contextual -dsimp only [↓SD, SU, SB, simprocAttr, List.map_nil]) trivial ?_
  intro k ⟨hk, hp⟩
  by_cases hlt : k < l.length
  ·have e1 := getD_map av l k .top hlt
   have hlt2 : k < m.length := by omega
   have e2 := getD_map av m k .top hlt2
   have C := hg l[k] (List.getElem_mem hlt) m[k] (List.getElem_mem hlt2)
   rw [eqF_step l m k hlt hlt2] at hp
   generalize l[k] = a at *
   generalize m[k] = b at *
   rw [av_Node] at e1 e2
   rw [av_Node, av_Node] at C
   simp +contextual -dsimp (maxSteps := 2000000) only [↓SD, SU, SB, simprocAttr, map_len, hlt, hlt2, e1, e2, av_Node, List.map_nil, List.append_nil]
   intro u w
   refine aCallK_of _ C ?_
   cases hb : p a b with
   | true =>
    rw [hb, Bool.true_and] at hp
    simp +contextual -dsimp (maxSteps := 2000000) only [↓SD, SU, SB, simprocAttr, List.map_nil]
    exact ⟨by omega, Goes.le ⟨k + 1, ⟨⟨hlt, hp⟩, (by first | omega | (simp only; omega))⟩, rfl⟩ (by simp +contextual -dsimp only [↓SD, SU, SB, simprocAttr, Int.natCast_add, List.map_nil]) trivial⟩
   | false =>
    rw [hb, Bool.false_and] at hp
    simp +contextual -dsimp (maxSteps := 2000000) only [↓SD, SU, SB, simprocAttr, hp, List.map_nil]
  ·obtain rfl : k = l.length := by omega
   rw [List.drop_length, hne2, List.drop_length] at hp
   simp +contextual -dsimp (maxSteps := 2000000) only [↓SD, SU, SB, simprocAttr, map_len, hne2, Nat.lt_irrefl, hp, eqF]
 ·have hne3 : eqF p l m = false := eqF_len (by omega)
  simp +contextual -dsimp (maxSteps := 2000000) only [↓SD, SU, SB, simprocAttr, ir_slices_EqualFunc_impl_Node_impl_Node_impl_Node_impl_Node, map_len, hne2, hne3]
theorem EqualFunc_Pat_ok (l m : List Pat) (g : FuncId) (p : Pat → Pat → Bool) (hl : l.length ≤ 1099511627776) (hm : m.length ≤ 1099511627776) (hg : ∀ x ∈ l, ∀ y ∈ m, CallsF Tryz.prog g [av x, av y] (.bool (p x y))) :
  CallsF Tryz.prog 99 [.sl (l.map av), .sl (m.map av), .fn g []] (.bool (eqF p l m)) := by
 refine ir_slices_EqualFunc_impl_Pat_impl_Pat_impl_Pat_impl_Pat.F rfl (by simp; exact ⟨lav_clean l, lav_clean m, AvPure.fn (by simp)⟩) (AvPure.bool _) ?_
 by_cases hne2 : l.length = m.length
 ·simp +contextual -dsimp (maxSteps := 2000000) only [↓SD, SU, SB, simprocAttr, ir_slices_EqualFunc_impl_Pat_impl_Pat_impl_Pat_impl_Pat, map_len, hne2, List.map_nil]
  refine aLoop_of (X := Nat) (fun k => ⟨[(1, .sl (m.map av)), (2, .fn g []), (15, .sl (l.map av)), (16, .int .i64 m.length), (17, .int .i64 k)], []⟩) (fun k => k ≤ l.length ∧ eqF p l m = eqF p (l.drop k) (m.drop k)) (fun k => l.length - k) 0 ⟨Nat.zero_le _, rfl⟩ (by simp +contextual -dsimp only [↓SD, SU, SB, simprocAttr, List.map_nil]) trivial ?_
  intro k ⟨hk, hp⟩
  by_cases hlt : k < l.length
  ·have e1 := getD_map av l k .top hlt
   have hlt2 : k < m.length := by omega
   have e2 := getD_map av m k .top hlt2
   have C := hg l[k] (List.getElem_mem hlt) m[k] (List.getElem_mem hlt2)
   rw [eqF_step l m k hlt hlt2] at hp
   generalize l[k] = a at *
   generalize m[k] = b at *
   rw [av_Pat] at e1 e2
   rw [av_Pat, av_Pat] at C
   simp +contextual -dsimp (maxSteps := 2000000) only [↓SD, SU, SB, simprocAttr, map_len, hlt, hlt2, e1, e2, av_Pat, List.map_nil, List.append_nil]
   intro u w
   refine aCallK_of _ C ?_
   cases hb : p a b with
   | true =>
    rw [hb, Bool.true_and] at hp
    simp +contextual -dsimp (maxSteps := 2000000) only [↓SD, SU, SB, simprocAttr, List.map_nil]
    exact ⟨by omega, Goes.le ⟨k + 1, ⟨⟨hlt, hp⟩, (by first | omega | (simp only; omega))⟩, rfl⟩ (by simp +contextual -dsimp only [↓SD, SU, SB, simprocAttr, Int.natCast_add, List.map_nil]) trivial⟩
   | false =>
    rw [hb, Bool.false_and] at hp
    simp +contextual -dsimp (maxSteps := 2000000) only [↓SD, SU, SB, simprocAttr, hp, List.map_nil]
  ·obtain rfl : k = l.length := by omega
   rw [List.drop_length, hne2, List.drop_length] at hp
   simp +contextual -dsimp (maxSteps := 2000000) only [↓SD, SU, SB, simprocAttr, map_len, hne2, Nat.lt_irrefl, hp, eqF]
 ·have hne3 : eqF p l m = false := eqF_len (by omega)
  simp +contextual -dsimp (maxSteps := 2000000) only [↓SD, SU, SB, simprocAttr, ir_slices_EqualFunc_impl_Pat_impl_Pat_impl_Pat_impl_Pat, map_len, hne2, hne3]
theorem EqualFunc_PNode_ok (l m : List PNode) (g : FuncId) (p : PNode → PNode → Bool) (hl : l.length ≤ 1099511627776) (hm : m.length ≤ 1099511627776) (hg : ∀ x ∈ l, ∀ y ∈ m, CallsF Tryz.prog g [av x, av y] (.bool (p x y))) :
  CallsF Tryz.prog 147 [.sl (l.map av), .sl (m.map av), .fn g []] (.bool (eqF p l m)) := by
 refine ir_slices_EqualFunc_impl_PNode_impl_PNode_impl_PNode_impl_PNode.F rfl (by simp; exact ⟨lav_clean l, lav_clean m, AvPure.fn (by simp)⟩) (AvPure.bool _) ?_
 by_cases hne2 : l.length = m.length
 ·simp +contextual -dsimp (maxSteps := 2000000) only [↓SD, SU, SB, simprocAttr, ir_slices_EqualFunc_impl_PNode_impl_PNode_impl_PNode_impl_PNode, map_len, hne2, List.map_nil]
  refine aLoop_of (X := Nat) (fun k => ⟨[(1, .sl (m.map av)), (2, .fn g []), (15, .sl (l.map av)), (16, .int .i64 m.length), (17, .int .i64 k)], []⟩) (fun k => k ≤ l.length ∧ eqF p l m = eqF p (l.drop k) (m.drop k)) (fun k => l.length - k) 0 ⟨Nat.zero_le _, rfl⟩ (by simp +contextual -dsimp only [↓SD, SU, SB, simprocAttr, List.map_nil]) trivial ?_
  intro k ⟨hk, hp⟩
  by_cases hlt : k < l.length
  ·have e1 := getD_map av l k .top hlt
   have hlt2 : k < m.length := by omega
   have e2 := getD_map av m k .top hlt2
   have C := hg l[k] (List.getElem_mem hlt) m[k] (List.getElem_mem hlt2)
   rw [eqF_step l m k hlt hlt2] at hp
   generalize l[k] = a at *
   generalize m[k] = b at *
   rw [av_PNode] at e1 e2
   rw [av_PNode, av_PNode] at C
   simp +contextual -dsimp (maxSteps := 2000000) only [↓SD, SU, SB, simprocAttr, map_len, hlt, hlt2, e1, e2, av_PNode, List.map_nil, List.append_nil]
   intro u w
   refine aCallK_of _ C ?_
   cases hb : p a b with
   | true =>
    rw [hb, Bool.true_and] at hp
    simp +contextual -dsimp (maxSteps := 2000000) only [↓SD, SU, SB, simprocAttr, List.map_nil]
    exact ⟨by omega, Goes.le ⟨k + 1, ⟨⟨hlt, hp⟩, (by first | omega | (simp only; omega))⟩, rfl⟩ (by simp +contextual -dsimp only [↓SD, SU, SB, simprocAttr, Int.natCast_add, List.map_nil]) trivial⟩
   | false =>
    rw [hb, Bool.false_and] at hp
    simp +contextual -dsimp (maxSteps := 2000000) only [↓SD, SU, SB, simprocAttr, hp, List.map_nil]
  ·obtain rfl : k = l.length := by omega
   rw [List.drop_length, hne2, List.drop_length] at hp
   simp +contextual -dsimp (maxSteps := 2000000) only [↓SD, SU, SB, simprocAttr, map_len, hne2, Nat.lt_irrefl, hp, eqF]
 ·have hne3 : eqF p l m = false := eqF_len (by omega)
  simp +contextual -dsimp (maxSteps := 2000000) only [↓SD, SU, SB, simprocAttr, ir_slices_EqualFunc_impl_PNode_impl_PNode_impl_PNode_impl_PNode, map_len, hne2, hne3]
theorem samePat1_ok (x y : PNode) (hx : x.kids.length ≤ 1099511627776) (hy : y.kids.length ≤ 1099511627776) : CallsF Tryz.prog 148 [av x, av y] (.bool (decide (x = y))) := by
 refine ir_impl_samePat_1.F rfl (by simp; exact ⟨AVal.clean x, AVal.clean y⟩) (AvPure.bool _) ?_
 have C := EqualInt_ok x.kids y.kids (by omega) (by omega)
 obtain ⟨a, b, c, d⟩ := x
 obtain ⟨a', b', c', d'⟩ := y
 simp only at C
 simp +contextual -dsimp (maxSteps := 2000000) only [↓SD, SU, SB, simprocAttr, ir_impl_samePat_1, av_PNode]
 by_cases h1 : a = a'
 ·by_cases h2 : b = b'
  ·by_cases h3 : c = c'
   ·subst h1 h2 h3
    simp +contextual -dsimp (maxSteps := 2000000) only [↓SD, SU, SB, simprocAttr]
    refine aCallK_of _ C ?_
    simp +contextual -dsimp (maxSteps := 2000000) only [↓SD, SU, SB, simprocAttr]
    simp
   ·simp +contextual -dsimp (maxSteps := 2000000) only [↓SD, SU, SB, simprocAttr, h1, h2, h3]
    simp [h3]
  ·simp +contextual -dsimp (maxSteps := 2000000) only [↓SD, SU, SB, simprocAttr, h1, h2]
   simp [h2]
 ·simp +contextual -dsimp (maxSteps := 2000000) only [↓SD, SU, SB, simprocAttr, h1]
  simp [h1]
theorem samePat_ok (x y : Pat) (hx : Bulk.bulk x ≤ 4294967296) (hy : Bulk.bulk y ≤ 4294967296) : CallsF Tryz.prog 100 [av x, av y] (.bool (decide (x = y))) := by
 refine ir_impl_samePat.F rfl (by simp; exact ⟨AVal.clean x, AVal.clean y⟩) (AvPure.bool _) ?_
 obtain ⟨l⟩ := x
 obtain ⟨m⟩ := y
 have hxb : Bulk.bulk l + 1 ≤ 4294967296 := hx
 have hyb : Bulk.bulk m + 1 ≤ 4294967296 := hy
 have hl := bulk_length l
 have hm := bulk_length m
 have hk : ∀ {l : List PNode}, Bulk.bulk l ≤ 4294967296 → ∀ x ∈ l, x.kids.length ≤ 1099511627776 := fun {l} h x hx => by
  have h1 := bulk_mem hx
  have h2 : Bulk.bulk x = Bulk.bulk x.kind + Bulk.bulk x.n + (x.s.size + 1) + Bulk.bulk x.kids + 1 := rfl
  have h3 := bulk_length x.kids
  omega
 have C := EqualFunc_PNode_ok l m 148 (fun x y => decide (x = y)) (by omega) (by omega) fun x hx y hy => samePat1_ok x y (hk (by omega) x hx) (hk (by omega) y hy)
 rw [eqF_eq] at C
 simp +contextual -dsimp (maxSteps := 2000000) only [↓SD, SU, SB, simprocAttr, ir_impl_samePat, av_Pat]
 refine aCallK_of _ C ?_
 simp +contextual -dsimp (maxSteps := 2000000) only [↓SD, SU, SB, simprocAttr]
 simp
theorem sameNodes1_ok (x y : Node) (hx : Bulk.bulk x ≤ 4294967296) (hy : Bulk.bulk y ≤ 4294967296) : CallsF Tryz.prog 97 [av x, av y] (.bool (decide (zpN x = zpN y))) := by
 refine ir_impl_sameNodes_1.F rfl (by simp; exact ⟨AVal.clean x, AVal.clean y⟩) (AvPure.bool _) ?_
 have hb : ∀ {x : Node}, Bulk.bulk x ≤ 4294967296 → x.kids.length ≤ 1099511627776 ∧ x.pats.length ≤ 1099511627776 ∧ ∀ q ∈ x.pats, Bulk.bulk q ≤ 4294967296 := fun {x} h => by
  have h2 : Bulk.bulk x = Bulk.bulk x.kind + Bulk.bulk x.pos + Bulk.bulk x.n + Bulk.bulk x.s + Bulk.bulk x.kids + Bulk.bulk x.pats + 1 := rfl
  have h3 := bulk_length x.kids
  have h4 := bulk_length x.pats
  exact ⟨by omega, by omega, fun q hq => by have := bulk_mem hq; omega⟩
 have C := EqualInt_ok x.kids y.kids (by have := hb hx; omega) (by have := hb hy; omega)
 have D := EqualFunc_Pat_ok x.pats y.pats 100 (fun x y => decide (x = y)) (hb hx).2.1 (hb hy).2.1 fun p hp q hq => samePat_ok p q ((hb hx).2.2 p hp) ((hb hy).2.2 q hq)
 rw [eqF_eq] at D
 clear hb hx hy
 obtain ⟨a, p, b, c, d, e⟩ := x
 obtain ⟨a', p', b', c', d', e'⟩ := y
 simp only at C D
 simp +contextual -dsimp (maxSteps := 2000000) only [↓SD, SU, SB, simprocAttr, ir_impl_sameNodes_1, av_Node]
 by_cases h1 : a = a'
 ·by_cases h2 : b = b'
  ·by_cases h3 : c = c'
   ·subst h1 h2 h3
    simp +contextual -dsimp (maxSteps := 2000000) only [↓SD, SU, SB, simprocAttr, List.map_nil]
    refine aCallK_of _ C ?_
    by_cases h4 : d = d'
    ·subst h4
     simp +contextual -dsimp (maxSteps := 2000000) only [↓SD, SU, SB, simprocAttr, List.map_nil]
     refine aCallK_of _ D ?_
     simp +contextual -dsimp (maxSteps := 2000000) only [↓SD, SU, SB, simprocAttr]
     simp [zpN]
    ·simp +contextual -dsimp (maxSteps := 2000000) only [↓SD, SU, SB, simprocAttr, h4]
     simp [zpN, h4]
   ·simp +contextual -dsimp (maxSteps := 2000000) only [↓SD, SU, SB, simprocAttr, h1, h2, h3]
    simp [zpN, h3]
  ·simp +contextual -dsimp (maxSteps := 2000000) only [↓SD, SU, SB, simprocAttr, h1, h2]
   simp [zpN, h2]
 ·simp +contextual -dsimp (maxSteps := 2000000) only [↓SD, SU, SB, simprocAttr, h1]
  simp [zpN, h1]
theorem sameNodes_ok (l m : List Node) (hx : Bulk.bulk l ≤ 4294967296) (hy : Bulk.bulk m ≤ 4294967296) : CallsF Tryz.prog 43 [.sl (l.map av), .sl (m.map av)] (.bool (decide (l.map zpN = m.map zpN))) := by
 refine ir_impl_sameNodes.F rfl (by simp; exact ⟨lav_clean l, lav_clean m⟩) (AvPure.bool _) ?_
 have hl := bulk_length l
 have hm := bulk_length m
 have C := EqualFunc_Node_ok l m 97 (fun x y => decide (zpN x = zpN y)) (by omega) (by omega) fun x hx' y hy' => sameNodes1_ok x y (by have := bulk_mem hx'; omega) (by have := bulk_mem hy'; omega)
 rw [eqF_dec (f := zpN) (fun x y => rfl)] at C
 simp +contextual -dsimp (maxSteps := 2000000) only [↓SD, SU, SB, simprocAttr, ir_impl_sameNodes]
 refine aCallK_of _ C ?_
 simp +contextual -dsimp (maxSteps := 2000000) only [↓SD, SU, SB, simprocAttr]
end Go.Proofs.YtjifpdcflankpaaGreat

namespace Go.Proofs.YtjifpdcflankpaaGreat.Av
open Go.RowKit
theorem callsF_ks2 {P : Go.Program} {f : FuncId} {args : List AV} {x y : AV} {Post : AV → Hp → Prop} (h : CallsH P f args [] Post) (h1 : ∀ x ∈ args, AvPure x) (h2 : AvPure (.tup [x, y])) (hp : ∀ r hp', Post r hp' → ∃ ks a b, r = .tup [a, b] ∧ a.pur (frzL ks hp') = x ∧ b.pur (frzL ks hp') = y) : CallsF P f args (.tup [x, y]) := by
 obtain ⟨hc, h⟩ := h
 refine ⟨hc, h1, fun S w vs hS hv => ?_⟩
 have hW : WI ⟨w, S, ownOf mu0 [], mu0⟩ S w mu0 [] := ⟨⟨rfl, rfl, rfl, Nat.le_refl _, fun _ _ _ => rfl⟩, hS, fun _ h => h, fun _ h => .inl h, ⟨1, Nat.zero_lt_one, fun _ _ _ => rfl, fun _ _ h => by cases h⟩, fun k bx h => (by cases h), fun k k' bx bx' B B' b h => (by cases h), Mu.le.refl _⟩
 have hno : ∀ b, ¬ ownOf mu0 [] b := by rintro b ⟨k, bx, B, h, _⟩; cases h
 refine (h S w mu0 vs hW hv).mono fun e w' ⟨v, r, hp', S', μ', he, hpost, hvr, hw'⟩ => ?_
 obtain ⟨ks, a, b, rfl, e1, e2⟩ := hp r hp' hpost
 obtain ⟨S1, w1, s1⟩ := WI.frzL (S := S') ks hw'
 have hv2 := hvr.mono (fun b hb => s1 b hb) (Same.refl _ _) (Mu.le.refl _)
 have hv3 : VR S1 w' μ' v (.tup [x, y]) := by
  cases hv2 with
  | tup cs xs hl hh =>
   refine .tup cs _ hl fun i u z p q => ?_
   match i, q with
   | 0, q => cases q; rw [← e1]; exact VR.pur w1 (hh 0 u a p rfl)
   | 1, q => cases q; rw [← e2]; exact VR.pur w1 (hh 1 u b p rfl)
   | i + 2, q => cases q
 have hsub : ∀ b, S1 b → S b ∨ (w.heap.size ≤ b ∧ b < w'.heap.size) := fun b hb => by
  rcases w1.new b hb with h | h | h
  ·exact .inl h
  ·exact .inr ⟨h, w1.lt b hb⟩
  ·exact (hno b h).elim
 exact ⟨v, he, (h2 _ _ _ _ hv3).mono hsub (Same.refl _ _) (Mu.le.refl _), ⟨hw'.ext.os, hw'.ext.tape, hw'.ext.output, hw'.ext.size, fun b hb => hw'.ext.block b hb (hno b)⟩⟩
end Go.Proofs.YtjifpdcflankpaaGreat.Av
namespace Go.Proofs.YtjifpdcflankpaaGreat
open Go.RowKit Go.Proofs.YtjifpdcflankpaaGreat.Av Go.Proofs.YtjifpdcflankpaaGreat.Ml
open Go.Proofs.YtjifpdcflankpaaGreat.Av.AVal (av)
open OVal (ov oh on)

theorem toCoreF_ok (p : Program) (hx : Bulk.bulk p ≤ 4294967296) : CallsF Tryz.prog 10 [av p] (.tup [av (toCoreR p), .bool (toCoreB p)]) :=
 callsF_ks2 (implToCore_ok 10000 p hx) (by simp; exact AVal.clean p) (AvPure.tup (by simp; exact ⟨AVal.clean _, AvPure.bool _⟩)) fun r hp' ⟨vs, e1, e2⟩ => ⟨on 10000 (toCoreR p), _, _, e1, by rw [e2]; exact OVal.lend 10000 vs (toCoreR p) _ (OVal.self 10000 vs (toCoreR p)), rfl⟩
end Go.Proofs.YtjifpdcflankpaaGreat
