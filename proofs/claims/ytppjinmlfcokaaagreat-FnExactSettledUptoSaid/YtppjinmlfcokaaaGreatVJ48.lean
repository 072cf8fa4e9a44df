/-
 THE RULE OF Spread, on a tree in rows of its own, by the program's abstract text. Conditions: none.
-/
import Derived.Test.YtppjinmlfcokaaaGreatVJ47
import Derived.Test.YtppjinmlfcokaaaGreatVJ44
import Derived.Test.YtppjinmlfcokaaaGreatVFlatT
import Derived.Test.YtppjinmlfcokaaaGreatVPgmW4
import Derived.Test.YtppjinmlfcokaaaGreatVJ35
import Derived.Test.YtppjinmlfcokaaaGreatVJ41
import Derived.Test.YtppjinmlfcokaaaGreatVJ38
import Derived.Test.YtppjinmlfcokaaaGreatVSetY
import Derived.Test.YtppjinmlfcokaaaGreatVJ24
import Derived.Test.YtppjinmlfcokaaaGreatVJ18
import Derived.Test.YtppjinmlfcokaaaGreatVGProg
import Derived.Test.YtppjinmlfcokaaaGreatVJ10
set_option linter.unusedVariables false
set_option linter.unusedSimpArgs false
set_option maxRecDepth 100000
namespace Go.Proofs.YtppjinmlfcokaaaGreat
open Go.RowKit Go.Proofs.YtppjinmlfcokaaaGreat.Av Go.Proofs.YtppjinmlfcokaaaGreat.Ml
open Go.Proofs.YtppjinmlfcokaaaGreat.Av.AVal (av)
open OVal (ov oh on)

theorem Afo {α : Type} {l : List α} (h : l.length = 2) : ∃ a b, l = [a, b] := by
 match l, h with
 | [a, b], _ => exact ⟨a, b, rfl⟩
set_option maxHeartbeats 4000000 in
theorem Abp : ∀ t : Tr, t.rk → t.size ≤ 600 → ∀ nm vs, Bu Tryz.prog 58 [ov nm vs t] (oh nm vs t) (DC nm (AP t)) := by
 rintro ⟨n, ks⟩ hrk hsz nm vs
 rw [Tr.rk] at hrk
 rw [Tr.size] at hsz
 obtain ⟨K, hK⟩ : ∃ K, K = sub nm 0 := ⟨_, rfl⟩
 have hKm : K ≠ nm := by rw [hK]; exact fun e => (InT.root (nm := sub nm 0)).ne e
 obtain ⟨H0, hH0⟩ : ∃ H0, H0 = oh nm vs (Tr.mk n ks) := ⟨_, rfl⟩
 have hs0 : AR H0 (oh nm vs (Tr.mk n ks)) := by rw [hH0]; exact OVal.self _ _ _
 obtain ⟨q1, q2, q3, q4⟩ := DW hs0
 rw [← hK] at q1 q2 q3
 rw [AP, ← hH0]
 by_cases h7 : n.kind = 7
 ·have E7 := eq_true h7
  obtain ⟨k0, k1, rfl⟩ := Afo (hrk.1.2.1 h7)
  have r0 := Ch.1 hrk.2 k0 (by simp)
  have r1 := Ch.1 hrk.2 k1 (by simp)
  rw [Tr.AJ, Tr.AJ, Tr.AJ] at hsz
  have eL : ovL K vs 0 [k0, k1] = [.ptr (sub K 0) (vs (sub K 0)) 0 0, .ptr (sub K 1) (vs (sub K 1)) 0 0] := by simp only [ovL, AD]
  have p0 : AR H0 (oh (sub K 0) vs k0) := q3 0 (by simp)
  have p1 : AR H0 (oh (sub K 1) vs k1) := q3 1 (by simp)
  rw [eL] at q2
  have C := Kl k0 (by omega)
  obtain ⟨es0, b0⟩ := Cf p0
  obtain ⟨es1, b1⟩ := Cf p1
  have hlend := HH (AD (sub K 0) vs k0).symm p0
  have hg0 : [k0, k1].getD 0 (Tr.mk default []) = k0 := rfl
  have hg1 : [k0, k1].getD 1 (Tr.mk default []) = k1 := rfl
  rw [hg0, hg1]
  cases hp : Es k0 with
  | false =>
   rw [hp] at C
   rw [if_neg (fun h => by cases h.2)]
   refine Dx.H rfl ?_
   simp +contextual -dsimp (maxSteps := 2000000) only [↓SD, SU, simprocAttr, Dx, AD, q1, q2, exB, E7, b0]
   refine Dz (on (sub K 0) k0) C rfl (A3 hlend rfl) ?_
   simp +contextual -dsimp (maxSteps := 2000000) only [↓SD, SU, simprocAttr, q1]
   refine Af.post (oh nm vs (Tr.mk n [k0, k1])) ?_
   simp +contextual -dsimp (maxSteps := 2000000) only [↓SD, SU, simprocAttr, AD, q1, false_and]
   exact ⟨hs0, vs, by rw [AD], rfl⟩
  | true =>
   rw [hp] at C
   rw [if_pos ⟨h7, rfl⟩]
   obtain ⟨m0, m1, m2⟩ := HE r0 hp
   have hsn : n.s.size ≤ 4294967296 := by
    have b6 := hrk.1.2.2.2.2.2.2
    have b5 : Ac.bulk n = Ac.bulk n.kind + Ac.bulk n.pos + Ac.bulk n.n + Ac.bulk n.s + Ac.bulk n.kids + Ac.bulk n.Ae + 1 := rfl
    have c6 : Ac.bulk n.s = n.s.size + 1 := rfl
    omega
   have R := UX n.s hsn k0.hd m2 k1 r1 (by omega) (sub K 1) vs
   rw [← m0] at R
   refine YG (sub K 1) nm ?_
   refine Dx.H rfl ?_
   simp +contextual -dsimp (maxSteps := 2000000) only [↓SD, SU, simprocAttr, Dx, AD, q1, q2, exB, E7, b0]
   refine Dz (on (sub K 0) k0) C rfl (A3 hlend rfl) ?_
   simp +contextual -dsimp (maxSteps := 2000000) only [↓SD, SU, simprocAttr, q1]
   refine EK (Af.Agh (on (sub K 0) k0) (Af.here ?_))
   obtain ⟨H1, hH1⟩ : ∃ H1, H1 = BZ (on (sub K 0) k0) H0 := ⟨_, rfl⟩
   have hnn : ¬ InT (sub K 0) nm := fun h => by have h1 := h.le; have h2 := Eu nm 0; have h3 := Eu K 0; rw [← hK] at h2; omega
   have hKn : ¬ InT (sub K 0) K := fun h => h.ne rfl
   have a1 : Ao H1 nm = Ao H0 nm := by rw [hH1, BJ (Gm hnn)]
   have a2 : Ao H1 K = Ao H0 K := by rw [hH1, BJ (Gm hKn)]
   have a3 : AR H1 (oh (sub K 1) vs k1) := by
    rw [hH1]
    exact I5 (fun p hp => Gm (fun h => Dn (i := 0) (j := 1) (by omega) h (OVal.inh hp))) p1
   rw [q1] at a1
   rw [q2] at a2
   rw [← hH1] at hlend ⊢
   obtain ⟨es2, b2⟩ := Cf a3
   rw [AD] at R
   simp +contextual -dsimp (maxSteps := 2000000) only [↓SD, SU, simprocAttr, a1, a2, exB, b2, hlend, false_and]
   refine Bt (on (sub K 1) k1) R (GF a3) ?_
   rintro r hp' ⟨v1, rfl, rfl⟩ H hH
   have ho := ES hH
   generalize De n.s k0.hd k1 = T at *
   obtain ⟨es3, b3⟩ := Cf ho
   simp +contextual -dsimp (maxSteps := 2000000) only [↓SD, SU, simprocAttr, AD, b3]
   refine Af.post (oh (sub K 1) v1 T) ?_
   simp +contextual -dsimp (maxSteps := 2000000) only [↓SD, SU, simprocAttr, AD, b3, false_and]
   exact ⟨ho, v1, by rw [AD], rfl⟩
 ·have E7 := eq_false h7
  rw [if_neg (fun h => h7 h.1)]
  refine Dx.H rfl ?_
  simp +contextual -dsimp (maxSteps := 2000000) only [↓SD, SU, simprocAttr, Dx, AD, q1, q2, exB, E7]
  refine Af.post (oh nm vs (Tr.mk n ks)) ?_
  simp +contextual -dsimp (maxSteps := 2000000) only [↓SD, SU, simprocAttr, AD, q1, false_and]
  exact ⟨hs0, vs, by rw [AD], rfl⟩
end Go.Proofs.YtppjinmlfcokaaaGreat
set_option linter.unusedVariables false
set_option linter.unusedSimpArgs false
set_option maxRecDepth 100000
namespace Go.Proofs.YtppjinmlfcokaaaGreat
open Go.RowKit Go.Proofs.YtppjinmlfcokaaaGreat.Av Go.Proofs.YtppjinmlfcokaaaGreat.Ml
open Go.Proofs.YtppjinmlfcokaaaGreat.Av.AVal (av)
open OVal (ov oh on)

set_option maxHeartbeats 4000000 in
theorem Q3 (nm : Nat) (p : Program) (hx : Ac.bulk p ≤ 4294967296) : Bu Tryz.prog 26 [av p] [] (DC nm (Dj AP p)) := by
 obtain ⟨q1, q2, q3, q4⟩ := CD hx
 have C := Dy p hx
 rw [Ag] at C
 cases hb : Bv p with
 | false =>
  rw [hb] at C
  rw [Dj, if_neg (by rw [hb]; simp)]
  refine Dt (Post := fun r hp' => r = .agg [.An, .An] ∧ hp' = []) (EV.H rfl ?_) ?_
  case refine_2 =>
   rintro r hp' ⟨rfl, rfl⟩
   refine Af.AbC 0 0 (sub nm 0) 72 3 rfl rfl fun u => ?_
   refine Af.AbC 0 1 (sub nm 1) 49 6 rfl rfl fun v => ?_
   have hne : sub nm 1 ≠ sub nm 0 := fun e => by have := (ER e).2; omega
   refine Af.le (t := ⟨[(0, .agg [.row (sub nm 0) u 0, .row (sub nm 1) v 0])], [(sub nm 0, ⟨u, false, 72, 3, []⟩), (sub nm 1, ⟨v, false, 49, 6, []⟩)]⟩) ⟨fun q => if q = sub nm 0 then u else v, ?_, ?_⟩ (by simp +contextual -dsimp only [↓SD, SU, simprocAttr]) ⟨?_, BH, trivial⟩
   ·rw [BV, if_pos rfl, if_neg hne]; rfl
   ·rw [Dl, Cn, Cn, Jj, Gg, Gg, if_pos rfl, if_neg hne]; rfl
   ·rw [BL hne]; exact BH
  simp +contextual -dsimp (maxSteps := 2000000) only [↓SD, SU, simprocAttr, EV, Ag]
  intro v2
  refine Aa _ C ?_
  simp +contextual -dsimp (maxSteps := 2000000) only [↓SD, SU, simprocAttr]
  refine Af.post [] ?_
  simp +contextual -dsimp (maxSteps := 2000000) only [↓SD, SU, simprocAttr]
 | true =>
  rw [hb] at C
  obtain ⟨h1, h2, h3, h4, h5, h6⟩ := Fv hx hb
  obtain ⟨f1, f2, f3, f4, f5⟩ := Dk hx hb
  have hk : ∀ i, i < p.nodes.length → ∀ k ∈ Aq p.nodes i, (i : Int) < k ∧ k < p.nodes.length := fun i hi k hk => Ef f3 hi hk
  obtain ⟨g, hg⟩ : ∃ g, g = sub nm 2 := ⟨_, rfl⟩
  have hgg : 10000 ≤ g := by rw [hg]; exact Cm _ _
  have hge2 : ∀ q, q < 10000 → (q == g) = false := fun q hq => beq_eq_false_iff_ne.2 (by omega)
  have hg3 : ¬ InT g 3 := fun h => by have := h.le; omega
  have G := Qi p.nodes hk q2 p.nodes.length g 0 (by omega) (by omega)
  rw [show Bw p.nodes p.nodes.length 0 = Al p.nodes 0 from rfl, show ((0 : Nat) : Int) = 0 from rfl] at G
  have hrk := Nk hx hb
  have hsz : (Al p.nodes 0).size ≤ 600 := by have := h4; omega
  have hR := KX (R := AP) (fun t h => Gk h) _ hrk
  have RW := Pn AP 58 (fun t h => Gk h) (fun t h1 h2 q _ => Abp t h1 h2 q) _ hrk hsz g hgg
  have PO := Ix nm p.types (AZ AP (Al p.nodes 0)) (Zk _ hR.1) (by omega) q1
  have hlen := Dm (AZ AP (Al p.nodes 0)) 0
  rw [Dj, if_pos hb]
  refine EV.H rfl ?_
  have hle : (Bz 0 (AZ AP (Al p.nodes 0))).length ≤ 600 := by omega
  clear hlen
  have hlt : ¬ (600 < ((Bz 0 (AZ AP (Al p.nodes 0))).length : Int)) := by omega
  generalize Bz 0 (AZ AP (Al p.nodes 0)) = L at *
  generalize AZ AP (Al p.nodes 0) = T' at *
  generalize Al p.nodes 0 = T at *
  simp +contextual -dsimp (maxSteps := 2000000) only [↓SD, SU, simprocAttr, EV, Ag]
  intro v2
  refine Aa _ C ?_
  simp +contextual -dsimp (maxSteps := 2000000) only [↓SD, SU, simprocAttr]
  refine ⟨?_, ?_⟩
  ·skip
   refine Bt [] G (by simp +contextual -dsimp only [↓SD, SU, simprocAttr]) ?_
   rintro r hp' ⟨vs, rfl, rfl⟩ H hH
   rw [DN] at hH
   have o1 := TA hgg hH
   have l1 : AR H (oh g vs T) := by rw [hH]; exact Cj (OVal.self _ _ _)
   have h2a : Ao H 2 = some (⟨v2, false, 31, 2, [.agg [.An, .An]]⟩ : Box) := (o1 2 (by omega)).trans (by simp [Ao])
   obtain ⟨es0, b0⟩ := Cf l1
   have RW := RW vs
   rw [AD] at RW
   simp +contextual -dsimp (maxSteps := 2000000) only [↓SD, SU, simprocAttr, AD, b0, hge2, false_and]
   refine ⟨?_, ?_⟩
   ·skip
    refine Bt (on g T) RW (GF l1) ?_
    rintro r hp2 ⟨v1, rfl, rfl⟩ H2 hH2
    have o2 := Mw hgg hH2
    have l2 := ES hH2
    have h2b : Ao H2 2 = some (⟨v2, false, 31, 2, [.agg [.An, .An]]⟩ : Box) := (o2 2 (by omega)).trans (by simp [Ao, h2a])
    obtain ⟨es1, b1⟩ := Cf l2
    simp +contextual -dsimp (maxSteps := 2000000) only [↓SD, SU, simprocAttr, AD, b1, hge2, false_and]
    refine ⟨?_, ?_⟩
    ·skip
     refine FM (on g T') PO (A3 (by simp +contextual -dsimp only [↓SD, SU, simprocAttr]) (A3 (HH (AD g v1 T').symm l2) rfl)) ?_
     rintro r hp3 ⟨v4, rfl, rfl⟩
     refine ⟨⟨K2 _ _ _, IL _ _ _⟩, ?_⟩
     intro H3 hH3
     have o3 := K3 hH3
     have l3 : AR H3 (oh nm v4 (⟨p.types, L⟩ : Program)) := by rw [hH3]; exact Cj (OVal.self _ _ _)
     have h2c : Ao H3 2 = some (⟨v2, false, 31, 2, [.agg [.An, .An]]⟩ : Box) := (o3 2 (by omega)).trans (by simp [Ao, h2b])
     have l3' := l3
     rw [Dl, AF] at l3'
     have r0 := BS l3'.1
     have r1 := BS l3'.2
     clear o1 o2 o3 l1 l2 b0 b1 hH hH2 hH3 RW
     simp +contextual -dsimp (maxSteps := 2000000) only [↓SD, SU, simprocAttr, BV, h2c, r0, r1, Cu, false_and]
     intro v3
     simp +contextual -dsimp (maxSteps := 2000000) only [↓SD, SU, simprocAttr, BV, h2c, r0, r1, Cu, hlt, false_and]
     refine Af.post (oh nm v4 (⟨p.types, L⟩ : Program)) ?_
     simp +contextual -dsimp (maxSteps := 2000000) only [↓SD, SU, simprocAttr, r0, r1, Cu, false_and]
     exact ⟨PT (PT (PT l3 (by omega)) (by omega)) (by omega), v4, by rw [BV], rfl⟩
    ·intro v3
     refine FM (on g T') PO (A3 (by simp +contextual -dsimp only [↓SD, SU, simprocAttr]) (A3 (HH (AD g v1 T').symm (CM hg3 l2)) rfl)) ?_
     rintro r hp3 ⟨v4, rfl, rfl⟩
     refine ⟨⟨K2 _ _ _, IL _ _ _⟩, ?_⟩
     intro H3 hH3
     have o3 := K3 hH3
     have l3 : AR H3 (oh nm v4 (⟨p.types, L⟩ : Program)) := by rw [hH3]; exact Cj (OVal.self _ _ _)
     have h2c : Ao H3 2 = some (⟨v2, false, 31, 2, [.agg [.An, .An]]⟩ : Box) := (o3 2 (by omega)).trans (by simp [Ao, h2b])
     have h3c : Ao H3 3 = some (⟨v3, false, 31, 2, [.agg [.An, .An]]⟩ : Box) := (o3 3 (by omega)).trans (by simp [Ao])
     have l3' := l3
     rw [Dl, AF] at l3'
     have r0 := BS l3'.1
     have r1 := BS l3'.2
     clear o1 o2 o3 l1 l2 b0 b1 hH hH2 hH3 RW
     simp +contextual -dsimp (maxSteps := 2000000) only [↓SD, SU, simprocAttr, BV, h2c, h3c, r0, r1, Cu, hlt, false_and]
     refine Af.post (oh nm v4 (⟨p.types, L⟩ : Program)) ?_
     simp +contextual -dsimp (maxSteps := 2000000) only [↓SD, SU, simprocAttr, r0, r1, Cu, false_and]
     exact ⟨PT (PT l3 (by omega)) (by omega), v4, by rw [BV], rfl⟩
   ·intro v3
    refine Bt (on g T) RW (GF (CM hg3 l1)) ?_
    rintro r hp2 ⟨v1, rfl, rfl⟩ H2 hH2
    have o2 := Mw hgg hH2
    have l2 := ES hH2
    have h2b : Ao H2 2 = some (⟨v2, false, 31, 2, [.agg [.An, .An]]⟩ : Box) := (o2 2 (by omega)).trans (by simp [Ao, h2a])
    have h3b : Ao H2 3 = some (⟨v3, false, 31, 2, [.agg [.An, .An]]⟩ : Box) := (o2 3 (by omega)).trans (by simp [Ao])
    obtain ⟨es1, b1⟩ := Cf l2
    simp +contextual -dsimp (maxSteps := 2000000) only [↓SD, SU, simprocAttr, AD, b1, hge2, false_and]
    refine FM (on g T') PO (A3 (by simp +contextual -dsimp only [↓SD, SU, simprocAttr]) (A3 (HH (AD g v1 T').symm l2) rfl)) ?_
    rintro r hp3 ⟨v4, rfl, rfl⟩
    refine ⟨⟨K2 _ _ _, IL _ _ _⟩, ?_⟩
    intro H3 hH3
    have o3 := K3 hH3
    have l3 : AR H3 (oh nm v4 (⟨p.types, L⟩ : Program)) := by rw [hH3]; exact Cj (OVal.self _ _ _)
    have h2c : Ao H3 2 = some (⟨v2, false, 31, 2, [.agg [.An, .An]]⟩ : Box) := (o3 2 (by omega)).trans (by simp [Ao, h2b])
    have h3c : Ao H3 3 = some (⟨v3, false, 31, 2, [.agg [.An, .An]]⟩ : Box) := (o3 3 (by omega)).trans (by simp [Ao, h3b])
    have l3' := l3
    rw [Dl, AF] at l3'
    have r0 := BS l3'.1
    have r1 := BS l3'.2
    clear o1 o2 o3 l1 l2 b0 b1 hH hH2 hH3 RW
    simp +contextual -dsimp (maxSteps := 2000000) only [↓SD, SU, simprocAttr, BV, h2c, h3c, r0, r1, Cu, hlt, false_and]
    refine Af.post (oh nm v4 (⟨p.types, L⟩ : Program)) ?_
    simp +contextual -dsimp (maxSteps := 2000000) only [↓SD, SU, simprocAttr, r0, r1, Cu, false_and]
    exact ⟨PT (PT l3 (by omega)) (by omega), v4, by rw [BV], rfl⟩
  ·intro v3
   refine Bt [] G (by simp +contextual -dsimp only [↓SD, SU, simprocAttr]) ?_
   rintro r hp' ⟨vs, rfl, rfl⟩ H hH
   rw [DN] at hH
   have o1 := TA hgg hH
   have l1 : AR H (oh g vs T) := by rw [hH]; exact Cj (OVal.self _ _ _)
   have h2a : Ao H 2 = some (⟨v2, false, 31, 2, [.agg [.An, .An]]⟩ : Box) := (o1 2 (by omega)).trans (by simp [Ao])
   have h3a : Ao H 3 = some (⟨v3, false, 31, 2, [.agg [.An, .An]]⟩ : Box) := (o1 3 (by omega)).trans (by simp [Ao])
   obtain ⟨es0, b0⟩ := Cf l1
   have RW := RW vs
   rw [AD] at RW
   simp +contextual -dsimp (maxSteps := 2000000) only [↓SD, SU, simprocAttr, AD, b0, hge2, false_and]
   refine Bt (on g T) RW (GF l1) ?_
   rintro r hp2 ⟨v1, rfl, rfl⟩ H2 hH2
   have o2 := Mw hgg hH2
   have l2 := ES hH2
   have h2b : Ao H2 2 = some (⟨v2, false, 31, 2, [.agg [.An, .An]]⟩ : Box) := (o2 2 (by omega)).trans (by simp [Ao, h2a])
   have h3b : Ao H2 3 = some (⟨v3, false, 31, 2, [.agg [.An, .An]]⟩ : Box) := (o2 3 (by omega)).trans (by simp [Ao, h3a])
   obtain ⟨es1, b1⟩ := Cf l2
   simp +contextual -dsimp (maxSteps := 2000000) only [↓SD, SU, simprocAttr, AD, b1, hge2, false_and]
   refine FM (on g T') PO (A3 (by simp +contextual -dsimp only [↓SD, SU, simprocAttr]) (A3 (HH (AD g v1 T').symm l2) rfl)) ?_
   rintro r hp3 ⟨v4, rfl, rfl⟩
   refine ⟨⟨K2 _ _ _, IL _ _ _⟩, ?_⟩
   intro H3 hH3
   have o3 := K3 hH3
   have l3 : AR H3 (oh nm v4 (⟨p.types, L⟩ : Program)) := by rw [hH3]; exact Cj (OVal.self _ _ _)
   have h2c : Ao H3 2 = some (⟨v2, false, 31, 2, [.agg [.An, .An]]⟩ : Box) := (o3 2 (by omega)).trans (by simp [Ao, h2b])
   have h3c : Ao H3 3 = some (⟨v3, false, 31, 2, [.agg [.An, .An]]⟩ : Box) := (o3 3 (by omega)).trans (by simp [Ao, h3b])
   have l3' := l3
   rw [Dl, AF] at l3'
   have r0 := BS l3'.1
   have r1 := BS l3'.2
   clear o1 o2 o3 l1 l2 b0 b1 hH hH2 hH3 RW
   simp +contextual -dsimp (maxSteps := 2000000) only [↓SD, SU, simprocAttr, BV, h2c, h3c, r0, r1, Cu, hlt, false_and]
   refine Af.post (oh nm v4 (⟨p.types, L⟩ : Program)) ?_
   simp +contextual -dsimp (maxSteps := 2000000) only [↓SD, SU, simprocAttr, r0, r1, Cu, false_and]
   exact ⟨PT (PT l3 (by omega)) (by omega), v4, by rw [BV], rfl⟩
end Go.Proofs.YtppjinmlfcokaaaGreat
set_option linter.unusedVariables false
set_option linter.unusedSimpArgs false
set_option maxRecDepth 100000
namespace Go.Proofs.YtppjinmlfcokaaaGreat
open Go.RowKit Go.Proofs.YtppjinmlfcokaaaGreat.Av Go.Proofs.YtppjinmlfcokaaaGreat.Ml
open Go.Proofs.YtppjinmlfcokaaaGreat.Av.AVal (av)
open OVal (ov oh on)

theorem toF {f : FuncId} {args : List AV} {q : Program} (h : Bu Tryz.prog f args [] (DC 9000 q)) (ha : ∀ x ∈ args, Ad x) : Ah Tryz.prog f args (av q) :=
 WO (WN (Post2 := fun r hp' => r = av q) h fun r hp' ⟨vs, e1, e2⟩ => ⟨on 9000 q, [], trivial, by
  subst e1 e2
  have := Z4 (OVal.self 9000 vs q)
  rw [BV] at this ⊢
  show nz (AV.pur _ (.agg _)) = _
  rw [show AV.pur (BZ (on 9000 q) (oh 9000 vs q)) (.agg _) = av q from this, X7]⟩) ha (AVal.clean q) fun r hp' h => .inl h
structure SiS where
 i : Nat
 q : Program
 vs : Nat → Nat
end Go.Proofs.YtppjinmlfcokaaaGreat
set_option linter.unusedVariables false
set_option linter.unusedSimpArgs false
set_option maxRecDepth 100000
namespace Go.Proofs.YtppjinmlfcokaaaGreat
open Go.RowKit Go.Proofs.YtppjinmlfcokaaaGreat.Av Go.Proofs.YtppjinmlfcokaaaGreat.Ml
open Go.Proofs.YtppjinmlfcokaaaGreat.Av.AVal (av)

def ps (p : Program) : ByteArray := Lz (bs []) p.types ++ exS p.nodes (p.nodes.length + 1) 0
theorem Ma {p : Program} (hb : Bv p = true) : B9 (Aq p.nodes) p.nodes.length (p.nodes.length + 1) 0 = some p.nodes.length := by
 simp only [Bv, GX, Bool.and_eq_true] at hb
 exact of_decide_eq_true hb.1.1.1.2
theorem RQ (p : Program) (hx : Ac.bulk p ≤ 4294967296) (hb : Bv p = true) : Ah Tryz.prog 40 [av p] (.str (ps p)) := by
 have h1 := (NC hb _ _ _ (Ma hb)).2
 have h2 := ZE hb p.nodes.length
 have h3 : Ac.bulk p = Ac.bulk p.types + Ac.bulk p.nodes + 1 := rfl
 exact AcO p hx hb _ (by omega) (P3 hx hb _ 0 _ (Ma hb))
theorem Kc (a b : Program) (ha : Ac.bulk a ≤ 4294967296) (hb : Ac.bulk b ≤ 4294967296) : Ah Tryz.prog 16 [av a, av b] (.bool (Bv a && (Bv b && decide (ps a = ps b)))) := by
 refine DV.F rfl (by simp; exact ⟨AVal.clean a, AVal.clean b⟩) (Ad.bool _) ?_
 have CA := Du a ha
 have CB := Du b hb
 have PA := RQ a ha
 have PB := RQ b hb
 rw [Ag] at CA CB PA PB
 cases hA : Bv a with
 | false =>
  rw [hA] at CA
  simp +contextual -dsimp (maxSteps := 2000000) only [↓SD, SU, simprocAttr, DV, Ag]
  refine Aa _ CA ?_
  simp +contextual -dsimp (maxSteps := 2000000) only [↓SD, SU, simprocAttr]
 | true =>
  rw [hA] at CA
  cases hB : Bv b with
  | false =>
   rw [hB] at CB
   simp +contextual -dsimp (maxSteps := 2000000) only [↓SD, SU, simprocAttr, DV, Ag]
   refine Aa _ CA ?_
   simp +contextual -dsimp (maxSteps := 2000000) only [↓SD, SU, simprocAttr]
   refine Aa _ CB ?_
   simp +contextual -dsimp (maxSteps := 2000000) only [↓SD, SU, simprocAttr]
  | true =>
   rw [hB] at CB
   have PA := PA hA
   have PB := PB hB
   generalize ps a = sa at *
   generalize ps b = sb at *
   simp +contextual -dsimp (maxSteps := 2000000) only [↓SD, SU, simprocAttr, DV, Ag]
   refine Aa _ CA ?_
   simp +contextual -dsimp (maxSteps := 2000000) only [↓SD, SU, simprocAttr]
   refine Aa _ CB ?_
   simp +contextual -dsimp (maxSteps := 2000000) only [↓SD, SU, simprocAttr]
   refine Aa _ PA ?_
   simp +contextual -dsimp (maxSteps := 2000000) only [↓SD, SU, simprocAttr]
   refine Aa _ PB ?_
   simp +contextual -dsimp (maxSteps := 2000000) only [↓SD, SU, simprocAttr]
theorem KI (a b : Program) (ha : Ac.bulk a ≤ 4294967296) (hb : Ac.bulk b ≤ 4294967296) : Ah Tryz.prog 23 [av a, av b] (.bool (Bv a && (Bv b && (decide (a.types = b.types) && decide (a.nodes.map zpN = b.nodes.map zpN))))) := by
 refine Ha.F rfl (by simp; exact ⟨AVal.clean a, AVal.clean b⟩) (Ad.bool _) ?_
 have CA := Dy a ha
 have CB := Dy b hb
 have ga : Ac.bulk a = Ac.bulk a.types + Ac.bulk a.nodes + 1 := rfl
 have gb : Ac.bulk b = Ac.bulk b.types + Ac.bulk b.nodes + 1 := rfl
 have CT := Tp a.types b.types (by omega) (by omega)
 have CN := Ts a.nodes b.nodes (by omega) (by omega)
 rw [Ag] at CA CB
 generalize decide (a.types = b.types) = dt at *
 generalize decide (a.nodes.map zpN = b.nodes.map zpN) = dn at *
 cases hA : Bv a <;> cases hB : Bv b <;> rw [hA] at CA <;> rw [hB] at CB
 all_goals
  simp +contextual -dsimp (maxSteps := 2000000) only [↓SD, SU, simprocAttr, Ha, Ag]
  refine Aa _ CA ?_
  simp +contextual -dsimp (maxSteps := 2000000) only [↓SD, SU, simprocAttr]
 all_goals
  refine Aa _ CB ?_
  simp +contextual -dsimp (maxSteps := 2000000) only [↓SD, SU, simprocAttr]
 refine Aa _ CT ?_
 cases dt
 ·simp +contextual -dsimp (maxSteps := 2000000) only [↓SD, SU, simprocAttr]
 ·simp +contextual -dsimp (maxSteps := 2000000) only [↓SD, SU, simprocAttr]
  refine Aa _ CN ?_
  simp +contextual -dsimp (maxSteps := 2000000) only [↓SD, SU, simprocAttr]
def ownB (R : Tr → Tr) (p : Program) : Bool := Bv p && decide (Dj R p = p)
theorem PE {R : Tr → Tr} (hR : Ov R) {p : Program} (hx : Ac.bulk p ≤ 4294967296) (hs : Bv p = true → SmP 2100000 p) : (Bv (Dj R p) && (Bv p && (decide ((Dj R p).types = p.types) && decide ((Dj R p).nodes.map zpN = p.nodes.map zpN)))) = ownB R p := by
 unfold ownB
 cases hb : Bv p with
 | false => rw [Bool.false_and, Bool.false_and, Bool.and_false]
 | true =>
  rw [XO hR hx (hs hb) hb]
  by_cases h : Dj R p = p
  ·rw [h, hb]; simp
  ·simp [h]
theorem PD {R : Tr → Tr} (hR : Ov R) {p : Program} (hx : Ac.bulk p ≤ 4294967296) (hs : Bv p = true → SmP 2100000 p) : (Bv (Dj R p) && (Bv p && decide (ps (Dj R p) = ps p))) = ownB R p := by
 unfold ownB
 cases hb : Bv p with
 | false => rw [Bool.false_and, Bool.false_and, Bool.and_false]
 | true =>
  by_cases h : Dj R p = p
  ·rw [h, hb]; simp
  ·cases hA : Bv (Dj R p) with
   | false => simp [h]
   | true =>
    have h1 := (Zm hR hx (hs hb) hb).resolve_left h
    have c1 := (NC hb _ _ _ (Ma hb)).1.own
    have c2 := (NC hA _ _ _ (Ma hA)).1.own
    have e2 : Al (Dj R p).nodes 0 = NB 0 (AZ R (Al p.nodes 0)) := by rw [OH hb, Uh]
    rw [e2, AeX] at c2
    have hne : ¬ ps (Dj R p) = ps p := fun e => by
     unfold ps at e
     have e3 : (Dj R p).types = p.types := by rw [OH hb]
     rw [e3] at e
     have e4 := congrArg bl e
     rw [YL, YL] at e4
     rw [List.append_cancel_left e4, c1] at c2
     omega
    simp [h, hne]
def II (p : Program) : Bool := ownB Az p && (ownB AM p && ownB AP p)
theorem Nm {R : Tr → Tr} (hR : Ov R) {p : Program} (hx : Ac.bulk p ≤ 4294967296) (hs : Bv p = true → SmP 2100000 p) : Ac.bulk (Dj R p) ≤ 4294967296 := by
 cases hb : Bv p with
 | true => exact Aev (Aez (fun t h => (hR t h).1) hx (hs hb))
 | false => rw [Dj, if_neg (by rw [hb]; simp)]; decide
theorem O8 (p : Program) (hx : Ac.bulk p ≤ 4294967296) (hB : ∀ n ∈ p.nodes, Ac.bulk n ≤ 2100000) (hs : Bv p = true → SmP 2100000 p) : Ah Tryz.prog 6 [av p] (.bool (II p)) := by
 refine JJ.F rfl (by simp; exact AVal.clean p) (Ad.bool _) ?_
 have CF := Uv p hx hB
 have CC := QW p hx
 have CS := QU p hx
 have SF := Kc _ p (Nm H4 hx hs) hx
 have SC := Kc _ p (Nm H5 hx hs) hx
 have SS := Kc _ p (Nm HZ hx hs) hx
 rw [PD H4 hx hs] at SF
 rw [PD H5 hx hs] at SC
 rw [PD HZ hx hs] at SS
 unfold II
 generalize ownB Az p = b1 at *
 generalize ownB AM p = b2 at *
 generalize ownB AP p = b3 at *
 generalize Dj Az p = pf at *
 generalize Dj AM p = pc at *
 generalize Dj AP p = pp at *
 simp only [Ag] at CF CC CS SF SC SS
 simp +contextual -dsimp (maxSteps := 2000000) only [↓SD, SU, simprocAttr, JJ, Ag, AB]
 refine Aa _ CF ?_
 simp +contextual -dsimp (maxSteps := 2000000) only [↓SD, SU, simprocAttr, AB]
 refine Aa _ SF ?_
 cases b1
 ·simp +contextual -dsimp (maxSteps := 2000000) only [↓SD, SU, simprocAttr, AB]
 ·simp +contextual -dsimp (maxSteps := 2000000) only [↓SD, SU, simprocAttr, AB]
  refine Aa _ CC ?_
  simp +contextual -dsimp (maxSteps := 2000000) only [↓SD, SU, simprocAttr, AB]
  refine Aa _ SC ?_
  cases b2
  ·simp +contextual -dsimp (maxSteps := 2000000) only [↓SD, SU, simprocAttr, AB]
  ·simp +contextual -dsimp (maxSteps := 2000000) only [↓SD, SU, simprocAttr, AB]
   refine Aa _ CS ?_
   simp +contextual -dsimp (maxSteps := 2000000) only [↓SD, SU, simprocAttr, AB]
   refine Aa _ SS ?_
   simp +contextual -dsimp (maxSteps := 2000000) only [↓SD, SU, simprocAttr, AB]
theorem Qa (p : Program) (hx : Ac.bulk p ≤ 4294967296) (hB : ∀ n ∈ p.nodes, Ac.bulk n ≤ 2100000) (hs : Bv p = true → SmP 2100000 p) : Ah Tryz.prog 8 [av p] (.bool (II p)) := by
 refine G1.F rfl (by simp; exact AVal.clean p) (Ad.bool _) ?_
 have hc : ∀ x ∈ [av p], Ad x := fun x hx => by rw [List.mem_singleton.1 hx]; exact AVal.clean p
 have CO := Dy p hx
 have CF := toF (V6 9000 p hx hB) hc
 have CC := toF (Q4 9000 p hx) hc
 have CS := toF (Q3 9000 p hx) hc
 have SF := KI _ p (Nm H4 hx hs) hx
 have SC := KI _ p (Nm H5 hx hs) hx
 have SS := KI _ p (Nm HZ hx hs) hx
 rw [PE H4 hx hs] at SF
 rw [PE H5 hx hs] at SC
 rw [PE HZ hx hs] at SS
 have hown : Bv p = false → II p = false := fun h => by unfold II ownB; rw [h]; rfl
 cases hb : Bv p with
 | false =>
  rw [hb] at CO
  rw [hown hb]
  rw [Ag] at CO
  simp +contextual -dsimp (maxSteps := 2000000) only [↓SD, SU, simprocAttr, G1, Ag, AB]
  refine Aa _ CO ?_
  simp +contextual -dsimp (maxSteps := 2000000) only [↓SD, SU, simprocAttr, AB]
 | true =>
  rw [hb] at CO
  unfold II
  generalize ownB Az p = b1 at *
  generalize ownB AM p = b2 at *
  generalize ownB AP p = b3 at *
  generalize Dj Az p = pf at *
  generalize Dj AM p = pc at *
  generalize Dj AP p = pp at *
  simp only [Ag] at CO CF CC CS SF SC SS
  simp +contextual -dsimp (maxSteps := 2000000) only [↓SD, SU, simprocAttr, G1, Ag, AB]
  refine Aa _ CO ?_
  simp +contextual -dsimp (maxSteps := 2000000) only [↓SD, SU, simprocAttr, AB]
  refine Aa _ CF ?_
  simp +contextual -dsimp (maxSteps := 2000000) only [↓SD, SU, simprocAttr, AB]
  refine Aa _ SF ?_
  cases b1
  ·simp +contextual -dsimp (maxSteps := 2000000) only [↓SD, SU, simprocAttr, AB]
  ·simp +contextual -dsimp (maxSteps := 2000000) only [↓SD, SU, simprocAttr, AB]
   refine Aa _ CC ?_
   simp +contextual -dsimp (maxSteps := 2000000) only [↓SD, SU, simprocAttr, AB]
   refine Aa _ SC ?_
   cases b2
   ·simp +contextual -dsimp (maxSteps := 2000000) only [↓SD, SU, simprocAttr, AB]
   ·simp +contextual -dsimp (maxSteps := 2000000) only [↓SD, SU, simprocAttr, AB]
    refine Aa _ CS ?_
    simp +contextual -dsimp (maxSteps := 2000000) only [↓SD, SU, simprocAttr, AB]
    refine Aa _ SS ?_
    simp +contextual -dsimp (maxSteps := 2000000) only [↓SD, SU, simprocAttr, AB]
end Go.Proofs.YtppjinmlfcokaaaGreat
set_option linter.unusedVariables false
set_option linter.unusedSimpArgs false
set_option maxRecDepth 100000
namespace Go.Proofs.YtppjinmlfcokaaaGreat
open Go.RowKit Go.Proofs.YtppjinmlfcokaaaGreat.Av Go.Proofs.YtppjinmlfcokaaaGreat.Ml
open Go.Proofs.YtppjinmlfcokaaaGreat.Av.AVal (av)

set_option maxHeartbeats 1000000 in
theorem Q2 (y0 : Program) (hq0 : Ac.bulk y0 ≤ 1048576) : Ah Tryz.prog 3 [av y0] (.bool true) := by -- 
 have hk0 : Ac.bulk y0 ≤ 4294967296 := by omega
 have hb0 : Ac.bulk y0.types + Ac.bulk y0.nodes + 1 ≤ 4294967296 := hk0
 refine F3.F rfl (by simp; exact AVal.clean y0) (Ad.bool _) ?_
 have T0 := Ti y0 hk0
 have E0 := TU y0 hk0
 rw [Ag] at T0 E0
 have CS := O8 y0 (by omega) (fun n hn => by have := Au hn; have h : Ac.bulk y0 = Ac.bulk y0.types + Ac.bulk y0.nodes + 1 := rfl; omega) (Ae7 hq0)
 have CI := Qa y0 (by omega) (fun n hn => by have := Au hn; have h : Ac.bulk y0 = Ac.bulk y0.types + Ac.bulk y0.nodes + 1 := rfl; omega) (Ae7 hq0)
 simp +contextual -dsimp (maxSteps := 2000000) only [↓SD, SU, simprocAttr, F3, Ag]
 repeat' (first | omega | rfl | intro _ | refine And.intro ?_ ?_ | (have Z := fun n h1 h2 => Tl y0 n hk0 h1 h2; rw [Ag] at Z; refine Bx [] (Z _ (by omega) (by omega)) (by simp +contextual -dsimp only [↓SD, SU, simprocAttr]) ?_; rintro r hp' ⟨m, rfl, rfl, hm1, hm2⟩; simp +contextual -dsimp (maxSteps := 2000000) only [↓SD, SU, simprocAttr]) | (refine Aa _ T0 ?_; simp +contextual -dsimp (maxSteps := 2000000) only [↓SD, SU, simprocAttr, beq_self_eq_true]) | (refine Aa _ E0 ?_; simp +contextual -dsimp (maxSteps := 2000000) only [↓SD, SU, simprocAttr, beq_self_eq_true]) | (refine Aa _ CS ?_; simp +contextual -dsimp (maxSteps := 2000000) only [↓SD, SU, simprocAttr, beq_self_eq_true]) | (refine Aa _ CI ?_; simp +contextual -dsimp (maxSteps := 2000000) only [↓SD, SU, simprocAttr, beq_self_eq_true]))

end Go.Proofs.YtppjinmlfcokaaaGreat
