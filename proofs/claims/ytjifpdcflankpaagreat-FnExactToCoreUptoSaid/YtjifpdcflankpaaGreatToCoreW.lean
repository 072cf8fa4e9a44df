/-
 ToCore OF THE PROGRAM AND OF THE REFERENCE, by their abstract texts. Conditions: none.
-/
import Derived.Test.YtjifpdcflankpaaGreatPackC
import Derived.Test.YtjifpdcflankpaaGreatPackF
import Derived.Test.YtjifpdcflankpaaGreatPackP
import Derived.Test.YtjifpdcflankpaaGreatIrToCoreI
import Derived.Test.YtjifpdcflankpaaGreatIrToCoreT
set_option linter.unusedVariables false
set_option linter.unusedSimpArgs false
set_option maxRecDepth 100000
namespace Go.Proofs.YtjifpdcflankpaaGreat
open Go.RowKit Go.Proofs.YtjifpdcflankpaaGreat.Av Go.Proofs.YtjifpdcflankpaaGreat.Ml
open Go.Proofs.YtjifpdcflankpaaGreat.Av.AVal (av)
open OVal (ov oh on)

theorem coreS_oks {n : Node} : ∀ {ks : List Tr}, (∀ k ∈ ks, ∀ env, (coreS k env).ok) → ∀ i env, Tr.oks (coreSs n i ks env)
 | [], _, i, env => by rw [coreSs, Tr.oks]; trivial
 | t :: ts, h, i, env => by rw [coreSs, Tr.oks]; exact ⟨h t (by simp) _, coreS_oks (fun k hk => h k (by simp [hk])) _ _⟩
theorem coreS_ok : ∀ (t : Tr), t.ok → t.all nodeC → ∀ env, (coreS t env).ok := Tr.ind fun n ks ih hok hc env => by
 rw [Tr.ok] at hok
 rw [Tr.all] at hc
 have hN := coreN_kind n env
 have h1 := coreN_w hc.1 env n.kids.length
 have h2 := bulk_node n
 have h3 := bulk_node (coreN n env)
 rw [hN.2.2.1] at h3
 rw [coreS, Tr.ok, coreSs_len]
 refine ⟨⟨fun h => hok.1.1 (hN.1 ▸ h), fun h => ?_, ?_⟩, coreS_oks (fun k hk => ih k hk (oks_mem hok.2 hk) (alls_mem hc.2 hk)) _ _⟩
 ·rw [hN.2.2.2, List.length_map]; exact hok.1.2.1 (hN.1 ▸ h)
 ·have := hok.1.2.2; omega
theorem coreW_two (t : Tr) (env : List ByteArray) : (∃ t', coreT t env = some t' ∧ coreW t env = .tup [av t', .bool true]) ∨ (coreT t env = none ∧ ∃ x, coreW t env = .tup [x, .bool false]) := by
 unfold coreW
 cases h : coreT t env with
 | some t' => exact .inl ⟨t', rfl, rfl⟩
 | none => obtain ⟨n, ks⟩ := t; exact .inr ⟨rfl, _, rfl⟩
def ToCorePost (nm : Nat) (p : Program) (b : Bool) (r : AV) (hp' : Hp) : Prop := ∃ vs, r = .tup [ov nm vs p, .bool b] ∧ hp' = oh nm vs p
theorem implToCore_ok (nm : Nat) (p : Program) (hx : Bulk.bulk p ≤ 1048576) : CallsH Tryz.prog 10 [av p] [] (ToCorePost nm (toCoreR p) (toCoreB p)) := by
 have hno : toCoreO p = none → CallsH Tryz.prog 10 [av p] [] (fun r hp' => r = .tup [.agg [.nils, .nils], .bool false] ∧ hp' = []) → CallsH Tryz.prog 10 [av p] [] (ToCorePost nm (toCoreR p) (toCoreB p)) := fun ho h => callsH_goes h fun r hp' hr => by
  obtain ⟨rfl, rfl⟩ := hr
  rw [toCoreR, toCoreB, ho, show (none : Option Program).getD ⟨[], []⟩ = ⟨[], []⟩ from rfl]
  refine Goes.newT 0 0 0 (sub nm 0) 74 3 rfl rfl rfl fun u => ?_
  refine Goes.newT 0 0 1 (sub nm 1) 44 6 rfl rfl rfl fun v => ?_
  have hne : sub nm 1 ≠ sub nm 0 := fun e => by have := (sub_inj e).2; omega
  refine Goes.le (t := ⟨[(0, .tup [.agg [.row (sub nm 0) u 0, .row (sub nm 1) v 0], .bool false])], [(sub nm 0, ⟨u, false, 74, 3, []⟩), (sub nm 1, ⟨v, false, 44, 6, []⟩)]⟩) ⟨fun q => if q = sub nm 0 then u else v, ?_, ?_⟩ (by simp +contextual -dsimp only [↓SD, SU, SB, simprocAttr]) ⟨?_, hg_eq, trivial⟩
  ·rw [ov_Program, if_pos rfl, if_neg hne]; rfl
  ·rw [oh_Program, oh_list, oh_list, ohL_nil, lbox, lbox, if_pos rfl, if_neg hne]; rfl
  ·rw [hg_ne hne]; exact hg_eq
 obtain ⟨q1, q2, q3, q4⟩ := prog_small hx
 have C := implProgramOk_ok p hx
 rw [av_Program] at C
 cases hb : progB p with
 | false =>
  rw [hb] at C
  refine hno (by rw [toCoreO, if_neg (by rw [hb]; simp)]) (funH_impl_ToCore_H rfl ?_)
  simp +contextual -dsimp (maxSteps := 2000000) only [↓SD, SU, SB, simprocAttr, ir_impl_ToCore_H, rs_impl_ToCore_H, av_Program]
  intro v2
  refine aCallK_of _ C ?_
  simp +contextual -dsimp (maxSteps := 2000000) only [↓SD, SU, SB, simprocAttr]
  refine Goes.post [] ?_
  simp +contextual -dsimp (maxSteps := 2000000) only [↓SD, SU, SB, simprocAttr]
 | true =>
  rw [hb] at C
  obtain ⟨h1, h2, h3, h4, h5, h6⟩ := tree_facts hx hb
  obtain ⟨f1, f2, f3, f4, f5⟩ := prog_facts hx hb
  have hk : ∀ i, i < p.nodes.length → ∀ k ∈ nkids p.nodes i, (i : Int) < k ∧ k < p.nodes.length := fun i hi k hk => tree_in f3 hi hk
  have G := grow_ok p.nodes hk q2 f5 p.nodes.length 0 (by omega) (by omega)
  rw [show growT p.nodes p.nodes.length 0 = treeAt p.nodes 0 from rfl] at G
  have K := callsF_argNil (a := [av (treeAt p.nodes 0)]) (b := []) (core_ok _ h1 h3 [] (by simp only [List.length_nil]; omega))
  have hcs := coreT_as _ h1 h2 []
  rcases coreW_two (treeAt p.nodes 0) [] with ⟨t', ht, hW⟩ | ⟨ht, x, hW⟩
  ·rw [hW] at K
   have hS : t' = coreS (treeAt p.nodes 0) [] := by
    rw [ht] at hcs
    split at hcs
    ·exact Option.some.inj hcs
    ·cases hcs
   have hok : t'.ok := by rw [hS]; exact coreS_ok _ h1 h2 []
   have hsz : t'.size ≤ 1048576 := by rw [hS, coreS_size]; omega
   have hO : toCoreO p = some ⟨p.types, layT 0 t'⟩ := by rw [toCoreO, if_pos hb, ht]; rfl
   have hR : toCoreR p = ⟨p.types, layT 0 t'⟩ := by rw [toCoreR, hO]; rfl
   have hB : toCoreB p = true := by rw [toCoreB, hO]; rfl
   have PO := programOfO_ok nm p.types t' hok hsz q1
   rw [hR, hB]
   refine funH_impl_ToCore_H rfl ?_
   clear hcs hW hO hR hB hS ht
   generalize treeAt p.nodes 0 = T at *
   simp +contextual -dsimp (maxSteps := 2000000) only [↓SD, SU, SB, simprocAttr, ir_impl_ToCore_H, rs_impl_ToCore_H, av_Program]
   intro v2
   refine aCallK_of _ C ?_
   simp +contextual -dsimp (maxSteps := 2000000) only [↓SD, SU, SB, simprocAttr]
   refine aCallK_of _ G ?_
   simp +contextual -dsimp (maxSteps := 2000000) only [↓SD, SU, SB, simprocAttr, tr_purA]
   refine aCallK_of _ K ?_
   simp +contextual -dsimp (maxSteps := 2000000) only [↓SD, SU, SB, simprocAttr, tr_purA]
   refine aCallH_gen [] PO (by simp +contextual -dsimp only [↓SD, SU, SB, simprocAttr, tr_purA]) ?_
   rintro r hp' ⟨vs, rfl, rfl⟩ H hH
   rw [hrest_no] at hH
   generalize layT 0 t' = L at *
   have l0 : hpLe H (oh nm vs (⟨p.types, L⟩ : Program)) := by rw [hH]; exact hpLe_l (OVal.self _ _ _)
   have l0' := l0
   rw [oh_Program, hpLe_app] at l0'
   have r0 := hpLe_root l0'.1
   have r1 := hpLe_root l0'.2
   have h2 : hget H 2 = some ⟨v2, false, 30, 2, [.agg [.nils, .nils]]⟩ := by
    rw [hH, oh_Program, hg_app_r (fun q hq e => by
     rcases List.mem_append.1 hq with h | h
     ·have := (OVal.inh h).ge; omega
     ·have := (OVal.inh h).ge; omega)]
    exact hg_eq
   simp +contextual -dsimp (maxSteps := 2000000) only [↓SD, SU, SB, simprocAttr, ov_Program, h2, r0, r1, low_beq, false_and]
   refine Goes.post (oh nm vs (⟨p.types, L⟩ : Program)) ?_
   simp +contextual -dsimp (maxSteps := 2000000) only [↓SD, SU, SB, simprocAttr, r0, r1, low_beq, false_and]
   refine ⟨?_, vs, by rw [ov_Program], rfl⟩
   rw [oh_Program] at l0 ⊢
   exact hpLe_c l0 (fun q hq e => by
    rcases List.mem_append.1 hq with h | h
    ·have := (OVal.inh h).ge; omega
    ·have := (OVal.inh h).ge; omega)
  ·rw [hW] at K
   refine hno (by rw [toCoreO, if_pos hb, ht]; rfl) (funH_impl_ToCore_H rfl ?_)
   simp +contextual -dsimp (maxSteps := 2000000) only [↓SD, SU, SB, simprocAttr, ir_impl_ToCore_H, rs_impl_ToCore_H, av_Program]
   intro v2
   refine aCallK_of _ C ?_
   simp +contextual -dsimp (maxSteps := 2000000) only [↓SD, SU, SB, simprocAttr]
   refine aCallK_of _ G ?_
   simp +contextual -dsimp (maxSteps := 2000000) only [↓SD, SU, SB, simprocAttr, tr_purA]
   refine aCallK_of _ K ?_
   simp +contextual -dsimp (maxSteps := 2000000) only [↓SD, SU, SB, simprocAttr, tr_purA]
   refine Goes.post [] ?_
   simp +contextual -dsimp (maxSteps := 2000000) only [↓SD, SU, SB, simprocAttr]
theorem specToCore_ok (p : Program) (hx : Bulk.bulk p ≤ 1048576) : CallsF Tryz.prog 8 [av p] (.tup [av (toCoreR p), .bool (toCoreB p)]) := by
 have hno : toCoreO p = none → CallsF Tryz.prog 8 [av p] (.tup [.agg [.nils, .nils], .bool false]) → CallsF Tryz.prog 8 [av p] (.tup [av (toCoreR p), .bool (toCoreB p)]) := fun ho h => by
  rw [toCoreR, toCoreB, ho, show (none : Option Program).getD ⟨[], []⟩ = ⟨[], []⟩ from rfl, av_Program]
  refine callsF_weaker h fun S w v h => ?_
  have := Av.VR.tupSet (off := 0) (y := .agg [.sl [], .sl []]) h (fun x u hx hu => by
   cases hx
   have h1 := Av.VR.aggSet (off := 0) (y := .sl []) hu rfl (fun x u hx hu => by cases hx; cases hu; exact .sl0 none 0 (Nat.zero_le _))
   exact Av.VR.aggSet (off := 1) (y := .sl []) h1 rfl (fun x u hx hu => by cases hx; cases hu; exact .sl0 none 0 (Nat.zero_le _)))
  exact this
 have hpn : AvPure (.tup [.agg [.nils, .nils], .bool false]) := AvPure.tup (by simp; exact ⟨AvPure.agg (by simp; exact AvPure.nils), AvPure.bool _⟩)
 obtain ⟨q1, q2, q3, q4⟩ := prog_small hx
 have C := specProgramOk_ok p hx
 rw [av_Program] at C
 cases hb : progB p with
 | false =>
  rw [hb] at C
  refine hno (by rw [toCoreO, if_neg (by rw [hb]; simp)]) (fun_spec_ToCore rfl (by simp; exact AVal.clean p) hpn ?_)
  simp +contextual -dsimp (maxSteps := 2000000) only [↓SD, SU, SB, simprocAttr, ir_spec_ToCore, rs_spec_ToCore, av_Program]
  intro v2
  refine aCallK_of _ C ?_
  simp +contextual -dsimp (maxSteps := 2000000) only [↓SD, SU, SB, simprocAttr]
 | true =>
  rw [hb] at C
  obtain ⟨h1, h2, h3, h4, h5, h6⟩ := tree_facts hx hb
  obtain ⟨f1, f2, f3, f4, f5⟩ := prog_facts hx hb
  have hk : ∀ i, i < p.nodes.length → ∀ k ∈ nkids p.nodes i, (i : Int) < k ∧ k < p.nodes.length := fun i hi k hk => tree_in f3 hi hk
  have G := l09Sub_ok p hk q2 p.nodes.length 0 (by omega) (by omega)
  rw [show growT p.nodes p.nodes.length 0 = treeAt p.nodes 0 from rfl, av_Program] at G
  have K := callsF_argNil (a := [av (Sub.mk (treeAt p.nodes 0))]) (b := []) (l15Core_ok _ h1 [] (by simp only [List.length_nil]; omega))
  have hO := toCore_as hx hb
  cases hB : coreB (treeAt p.nodes 0) [] with
  | false =>
   rw [hB] at hO K
   refine hno (by rw [hO]; rfl) (fun_spec_ToCore rfl (by simp; exact AVal.clean p) hpn ?_)
   generalize coreS (treeAt p.nodes 0) [] = T' at *
   generalize treeAt p.nodes 0 = T at *
   simp +contextual -dsimp (maxSteps := 2000000) only [↓SD, SU, SB, simprocAttr, ir_spec_ToCore, rs_spec_ToCore, av_Program]
   intro v2
   refine aCallK_of _ C ?_
   simp +contextual -dsimp (maxSteps := 2000000) only [↓SD, SU, SB, simprocAttr]
   refine aCallK_of _ G ?_
   simp +contextual -dsimp (maxSteps := 2000000) only [↓SD, SU, SB, simprocAttr, sub_purA]
   refine aCallK_of _ K ?_
   simp +contextual -dsimp (maxSteps := 2000000) only [↓SD, SU, SB, simprocAttr, sub_purA, sub_len, sub_agg, sub_pur, sub_ok]
  | true =>
   rw [hB] at hO K
   have hR : toCoreR p = ⟨p.types, layT 0 (coreS (treeAt p.nodes 0) [])⟩ := by rw [toCoreR, hO]; rfl
   have hBB : toCoreB p = true := by rw [toCoreB, hO]; rfl
   have hsz : (coreS (treeAt p.nodes 0) []).size ≤ 1048576 := by rw [coreS_size]; omega
   rw [hR, hBB]
   have CT := l15Types_ok p.types q1
   have CL := l03LayF_ok _ hsz
   refine fun_spec_ToCore rfl (by simp; exact AVal.clean p) (AvPure.tup (by simp; exact ⟨AVal.clean _, AvPure.bool _⟩)) ?_
   clear hO hB hR hBB
   generalize coreS (treeAt p.nodes 0) [] = T' at *
   generalize treeAt p.nodes 0 = T at *
   have hlm : ∀ hp, ((layT 0 T').map (av : Node → AV)).map (AV.pur hp) = (layT 0 T').map av := fun hp => map_nop _ hp
   have htm : ∀ hp, (p.types.map (av : TypeD → AV)).map (AV.pur hp) = p.types.map av := fun hp => map_nop _ hp
   simp +contextual -dsimp (maxSteps := 2000000) only [↓SD, SU, SB, simprocAttr, ir_spec_ToCore, rs_spec_ToCore, av_Program]
   intro v2
   refine aCallK_of _ C ?_
   simp +contextual -dsimp (maxSteps := 2000000) only [↓SD, SU, SB, simprocAttr]
   refine aCallK_of _ G ?_
   simp +contextual -dsimp (maxSteps := 2000000) only [↓SD, SU, SB, simprocAttr, sub_purA]
   refine aCallK_of _ K ?_
   simp +contextual -dsimp (maxSteps := 2000000) only [↓SD, SU, SB, simprocAttr, sub_purA, sub_len, sub_agg, sub_pur, sub_ok]
   intro v4
   refine aCallK_of _ CT ?_
   simp +contextual -dsimp (maxSteps := 2000000) only [↓SD, SU, SB, simprocAttr, sub_purA, sub_len, sub_agg, sub_pur, sub_ok]
   refine aCallK_of _ CL ?_
   simp +contextual -dsimp (maxSteps := 2000000) only [↓SD, SU, SB, simprocAttr, hlm, htm]
end Go.Proofs.YtjifpdcflankpaaGreat
