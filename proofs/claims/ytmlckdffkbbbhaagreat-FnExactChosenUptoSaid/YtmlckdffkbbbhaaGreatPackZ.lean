/-
 THE GROUND OF DATA, in one text. Conditions: none.
-/
import Derived.Test.YtmlckdffkbbbhaaGreatPackX
import Derived.Test.YtmlckdffkbbbhaaGreatPackT
import Derived.Test.YtmlckdffkbbbhaaGreatIrTidyS
import Derived.Test.YtmlckdffkbbbhaaGreatPackP
import Derived.Test.YtmlckdffkbbbhaaGreatPackG

set_option linter.unusedVariables false
set_option linter.unusedSimpArgs false
set_option maxRecDepth 100000
namespace Go.Proofs.YtmlckdffkbbbhaaGreat
open Go.RowKit Go.Proofs.YtmlckdffkbbbhaaGreat.Av Go.Proofs.YtmlckdffkbbbhaaGreat.Ml
open Go.Proofs.YtmlckdffkbbbhaaGreat.Av.AVal (av)

theorem sub_drop (t : Sub) : List.drop 7 (av t).cells = [] := List.drop_eq_nil_of_le (by rw [sub_len]; exact Nat.le_refl _)
end Go.Proofs.YtmlckdffkbbbhaaGreat

namespace Go.Proofs.YtmlckdffkbbbhaaGreat
open Go.RowKit Go.Proofs.YtmlckdffkbbbhaaGreat.Av Go.Proofs.YtmlckdffkbbbhaaGreat.Ml
open Go.Proofs.YtmlckdffkbbbhaaGreat.Av.AVal (av)

def bareN (n : Node) (m : Nat) : Node := { n with kids := List.replicate m 0 }
theorem l16Bare_ok (n : Node) (ks : List Tr) (hl : ks.length ≤ 1048576) : CallsF Tryz.prog 49 [av (Sub.mk (.mk n ks))] (av (bareN n ks.length)) := by
 refine fun_spec_l16Bare rfl (by simp; exact AVal.clean _) (AVal.clean _) ?_
 have hkm : ((ks.map Sub.mk).map (av : Sub → AV)).length = ks.length := by simp
 have hr : (List.replicate ks.length (0 : Int)).map (av : Int → AV) = List.replicate ks.length (.int .i64 0) := by rw [List.map_replicate]; rfl
 have hm : ∀ hp, (List.replicate ks.length (AV.int .i64 0)).map (AV.pur hp) = List.replicate ks.length (.int .i64 0) := fun hp => by rw [List.map_replicate]; rfl
 have ht : List.take ks.length (List.replicate ks.length (AV.int .i64 0)) = List.replicate ks.length (.int .i64 0) := List.take_of_length_le (by simp)
 unfold bareN
 rw [av_Node, hr]
 simp +contextual -dsimp (maxSteps := 2000000) only [↓SD, SU, SB, simprocAttr, ir_spec_l16Bare, rs_spec_l16Bare, av_Sub, hkm, hm, ht, List.length_replicate, Nat.le_refl]
 omega
theorem l16AtomB_ok (n : Node) (m : Nat) (hl : m ≤ 1048576) : CallsF Tryz.prog 48 [av (bareN n m)] (.bool (plainB n m)) := by
 have C := l16Atom_ok (bareN n m) (by simp [bareN]; exact hl)
 have e : plainB (bareN n m) (bareN n m).kids.length = plainB n m := by
  rw [show (bareN n m).kids.length = m from List.length_replicate]; rfl
 rw [e] at C
 exact C
theorem l16Program_ok (p : Program) (t : Tr) (hx : Bulk.bulk p.types ≤ 1048576) (hsz : t.size ≤ 600) : CallsF Tryz.prog 20 [av p, av (Sub.mk t)] (av (⟨p.types, layT 0 t⟩ : Program)) := by
 refine fun_spec_l16Program rfl (by simp; exact ⟨AVal.clean _, AVal.clean _⟩) (AVal.clean _) ?_
 have CT := l15Types_ok p.types hx
 have CL := l03LayF_ok t (by omega)
 have hll := layT_len t 0
 obtain ⟨n, ks⟩ := t
 generalize layT 0 (Tr.mk n ks) = L at *
 have hlm : ∀ hp, (L.map (av : Node → AV)).map (AV.pur hp) = L.map av := fun hp => map_nop _ hp
 have htm : ∀ hp, (p.types.map (av : TypeD → AV)).map (AV.pur hp) = p.types.map av := fun hp => map_nop _ hp
 have hLl : (L.map (av : Node → AV)).length = L.length := List.length_map _
 have hbig : ¬ (600 : Int) < (L.length : Int) := by omega
 rw [av_Program, av_Program, av_Sub] at *
 simp +contextual -dsimp (maxSteps := 2000000) only [↓SD, SU, SB, simprocAttr, ir_spec_l16Program, rs_spec_l16Program]
 intro v4
 refine aCallK_of _ CT ?_
 simp +contextual -dsimp (maxSteps := 2000000) only [↓SD, SU, SB, simprocAttr]
 refine aCallK_of _ CL ?_
 simp +contextual -dsimp (maxSteps := 2000000) only [↓SD, SU, SB, simprocAttr, hlm, htm, hLl, hbig]
 trace_state
theorem nilP_w {S : Nat → Prop} {w : World} {v : Value} (h : VR S w mu0 v (.agg [.nils, .nils])) : VR S w mu0 v (av (⟨[], []⟩ : Program)) := by
 rw [av_Program]
 have h1 := Av.VR.aggSet (off := 0) (y := .sl []) h rfl (fun x u hx hu => by cases hx; cases hu; exact .sl0 none 0 (Nat.zero_le _))
 exact Av.VR.aggSet (off := 1) (y := .sl []) h1 rfl (fun x u hx hu => by cases hx; cases hu; exact .sl0 none 0 (Nat.zero_le _))
end Go.Proofs.YtmlckdffkbbbhaaGreat

namespace Go.Proofs.YtmlckdffkbbbhaaGreat
open Go.RowKit Go.Proofs.YtmlckdffkbbbhaaGreat.Av Go.Proofs.YtmlckdffkbbbhaaGreat.Ml
open Go.Proofs.YtmlckdffkbbbhaaGreat.Av.AVal (av)

theorem eqNodeS_big (l : List Node) (hl : l.length ≤ 1048576) (hx : ∀ n ∈ l, Bulk.bulk n ≤ 1048576) : CallsF Tryz.prog 31 [.sl (l.map av), .sl (l.map av)] (.bool true) := by
 refine fun_laws_eqNodeS rfl (by simp; exact lav_clean l) (AvPure.bool _) ?_
 simp +contextual -dsimp (maxSteps := 2000000) only [↓SD, SU, SB, simprocAttr, ir_laws_eqNodeS, rs_laws_eqNodeS, map_len]
 refine aLoop_of (X := Nat) (fun k => ⟨[(0, .sl (l.map av)), (1, .sl (l.map av)), (5, .int .i64 k)], []⟩) (fun k => k ≤ l.length) (fun k => l.length - k) 0 (Nat.zero_le _) (by simp +contextual -dsimp only [↓SD, SU, SB, simprocAttr]) trivial ?_
 intro k hk
 by_cases hlt : k < l.length
 ·have e := getD_map av l k .top hlt
  have hbk : Bulk.bulk l[k] ≤ 1048576 := hx _ (List.getElem_mem hlt)
  simp +contextual -dsimp (maxSteps := 2000000) only [↓SD, SU, SB, simprocAttr, map_len, hlt, e, av_Node]
  have C := eqNode_ok l[k] hbk
  rw [av_Node] at C
  refine aCallK_of _ C ?_
  simp +contextual -dsimp (maxSteps := 2000000) only [↓SD, SU, SB, simprocAttr, map_len, hlt, e, av_Node]
  exact ⟨by omega, Goes.le ⟨k + 1, ⟨hlt, (by first | omega | (simp only; omega))⟩, rfl⟩ (by simp +contextual -dsimp only [↓SD, SU, SB, simprocAttr, Int.natCast_add]) trivial⟩
 ·obtain rfl : k = l.length := by omega
  simp +contextual -dsimp (maxSteps := 2000000) only [↓SD, SU, SB, simprocAttr, map_len, Nat.lt_irrefl]
theorem eqProgram_big (x : Program) (h1 : Bulk.bulk x.types ≤ 1048576) (h2 : x.nodes.length ≤ 1048576) (h3 : ∀ n ∈ x.nodes, Bulk.bulk n ≤ 1048576) : CallsF Tryz.prog 10 [av x, av x] (.bool true) := by
 refine fun_laws_eqProgram rfl (by simp; exact AVal.clean x) (AvPure.bool _) ?_
 simp +contextual -dsimp (maxSteps := 2000000) only [↓SD, SU, SB, simprocAttr, ir_laws_eqProgram, rs_laws_eqProgram, av_Program, beq_self_eq_true]
 refine aCallK_of _ (eqTypeS_ok x.types h1) ?_
 simp +contextual -dsimp (maxSteps := 2000000) only [↓SD, SU, SB, simprocAttr, beq_self_eq_true]
 refine aCallK_of _ (eqNodeS_big x.nodes h2 h3) ?_
 simp +contextual -dsimp (maxSteps := 2000000) only [↓SD, SU, SB, simprocAttr, beq_self_eq_true]
end Go.Proofs.YtmlckdffkbbbhaaGreat
