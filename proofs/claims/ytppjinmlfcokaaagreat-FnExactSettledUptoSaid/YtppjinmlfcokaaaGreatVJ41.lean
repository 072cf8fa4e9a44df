/-
 Fold OF THE PROGRAM, by its abstract text. Conditions: none.
-/
import Derived.Test.YtppjinmlfcokaaaGreatVFldW
import Derived.Test.YtppjinmlfcokaaaGreatVJ38
import Derived.Test.YtppjinmlfcokaaaGreatVFlatT
import Derived.Test.YtppjinmlfcokaaaGreatVPgmW4
import Derived.Test.YtppjinmlfcokaaaGreatProg
import Derived.Test.YtppjinmlfcokaaaGreatVAvDraw
import Derived.Test.YtppjinmlfcokaaaGreatVAvSimp
import Derived.Test.YtppjinmlfcokaaaGreatVAvRen
import Derived.Test.YtppjinmlfcokaaaGreatVJ24
set_option linter.unusedVariables false
set_option linter.unusedSimpArgs false
set_option maxRecDepth 100000
namespace Go.Proofs.YtppjinmlfcokaaaGreat
open Go.RowKit Go.Proofs.YtppjinmlfcokaaaGreat.Av Go.Proofs.YtppjinmlfcokaaaGreat.Ml
open Go.Proofs.YtppjinmlfcokaaaGreat.Av.AVal (av)
open OVal (ov oh on)

set_option maxHeartbeats 4000000 in
theorem V6 (nm : Nat) (p : Program) (hx : Ac.bulk p ≤ 4294967296) (hB : ∀ n ∈ p.nodes, Ac.bulk n ≤ 2100000) : Bu Tryz.prog 24 [av p] [] (DC nm (Dj Az p)) := by
 obtain ⟨q1, q2, q3, q4⟩ := CD hx
 have C := Dy p hx
 rw [Ag] at C
 cases hb : Bv p with
 | false =>
  rw [hb] at C
  rw [Dj, if_neg (by rw [hb]; simp)]
  refine Dt (Post := fun r hp' => r = .agg [.An, .An] ∧ hp' = []) (F6.H rfl ?_) ?_
  case refine_2 =>
   rintro r hp' ⟨rfl, rfl⟩
   refine Af.AbC 0 0 (sub nm 0) 72 3 rfl rfl fun u => ?_
   refine Af.AbC 0 1 (sub nm 1) 49 6 rfl rfl fun v => ?_
   have hne : sub nm 1 ≠ sub nm 0 := fun e => by have := (ER e).2; omega
   refine Af.le (t := ⟨[(0, .agg [.row (sub nm 0) u 0, .row (sub nm 1) v 0])], [(sub nm 0, ⟨u, false, 72, 3, []⟩), (sub nm 1, ⟨v, false, 49, 6, []⟩)]⟩) ⟨fun q => if q = sub nm 0 then u else v, ?_, ?_⟩ (by simp +contextual -dsimp only [↓SD, SU, simprocAttr]) ⟨?_, BH, trivial⟩
   ·rw [BV, if_pos rfl, if_neg hne]; rfl
   ·rw [Dl, Cn, Cn, Jj, Gg, Gg, if_pos rfl, if_neg hne]; rfl
   ·rw [BL hne]; exact BH
  simp +contextual -dsimp (maxSteps := 2000000) only [↓SD, SU, simprocAttr, F6, Ag]
  intro v2
  refine Aa _ C ?_
  simp +contextual -dsimp (maxSteps := 2000000) only [↓SD, SU, simprocAttr]
  refine Af.post [] ?_
  simp +contextual -dsimp (maxSteps := 2000000) only [↓SD, SU, simprocAttr]
 | true =>
  rw [hb] at C
  obtain ⟨h1, h2, h3, h4, h5, h6⟩ := Fv hx hb
  obtain ⟨f1, f2, f3, f4, f5⟩ := Dk hx hb
  have hk : ∀ i, i < p.nodes.length → ∀ k ∈ Aq p.nodes i, (i : Int) < k ∧ k < p.nodes.length := fun i hi k hk => Ef f3 hi hk
  obtain ⟨g, hg⟩ : ∃ g, g = sub nm 2 := ⟨_, rfl⟩
  have hgg : 10000 ≤ g := by rw [hg]; exact Cm _ _
  have hge2 : ∀ q, q < 10000 → (q == g) = false := fun q hq => beq_eq_false_iff_ne.2 (by omega)
  have hg3 : ¬ InT g 3 := fun h => by have := h.le; omega
  have G := Qi p.nodes hk q2 p.nodes.length g 0 (by omega) (by omega)
  rw [show Bw p.nodes p.nodes.length 0 = Al p.nodes 0 from rfl, show ((0 : Nat) : Int) = 0 from rfl] at G
  have hrk := Te hx hb hB
  have hrk0 := Nk hx hb
  have hsz : (Al p.nodes 0).size ≤ 600 := by have := h4; omega
  have hR := GM Je O5 (HQ (B := 2100000) (by decide)) _ hrk
  have RW := NX Je O5 Az 56 (HQ (B := 2100000) (by decide)) AbS _ hrk hsz g hgg
  have PO := Ix nm p.types (AZ Az (Al p.nodes 0)) (Zk _ hR.1.1) (by omega) q1
  have hlen := Dm (AZ Az (Al p.nodes 0)) 0
  rw [Dj, if_pos hb]
  refine F6.H rfl ?_
  have hle : (Bz 0 (AZ Az (Al p.nodes 0))).length ≤ 600 := by omega
  clear hlen
  have hlt : ¬ (600 < ((Bz 0 (AZ Az (Al p.nodes 0))).length : Int)) := by omega
  generalize Bz 0 (AZ Az (Al p.nodes 0)) = L at *
  generalize AZ Az (Al p.nodes 0) = T' at *
  generalize Al p.nodes 0 = T at *
  simp +contextual -dsimp (maxSteps := 2000000) only [↓SD, SU, simprocAttr, F6, Ag]
  intro v2
  refine Aa _ C ?_
  simp +contextual -dsimp (maxSteps := 2000000) only [↓SD, SU, simprocAttr]
  refine Bt [] G (by simp +contextual -dsimp only [↓SD, SU, simprocAttr]) ?_
  rintro r hp' ⟨vs, rfl, rfl⟩ H hH
  rw [DN] at hH
  have o1 := TA hgg hH
  have l1 : AR H (oh g vs T) := by rw [hH]; exact Cj (OVal.self _ _ _)
  have h2a : Ao H 2 = some (⟨v2, false, 31, 2, [.agg [.An, .An]]⟩ : Box) := (o1 2 (by omega)).trans (by simp [Ao])
  obtain ⟨es0, b0⟩ := Cf l1
  have RW := RW vs
  rw [AD] at RW
  simp +contextual -dsimp (maxSteps := 2000000) only [↓SD, SU, simprocAttr, AD, b0, hge2, false_and]
  refine Bt (on g T) RW (GF l1) ?_
  rintro r hp2 ⟨v1, rfl, rfl⟩ H2 hH2
  have o2 := Mw hgg hH2
  have l2 := ES hH2
  have h2b : Ao H2 2 = some (⟨v2, false, 31, 2, [.agg [.An, .An]]⟩ : Box) := (o2 2 (by omega)).trans (by simp [Ao, h2a])
  obtain ⟨es1, b1⟩ := Cf l2
  simp +contextual -dsimp (maxSteps := 2000000) only [↓SD, SU, simprocAttr, AD, b1, hge2, false_and]
  refine FM (on g T') PO (A3 (by simp +contextual -dsimp only [↓SD, SU, simprocAttr]) (A3 (HH (AD g v1 T').symm l2) rfl)) ?_
  rintro r hp3 ⟨v4, rfl, rfl⟩
  refine ⟨⟨K2 _ _ _, IL _ _ _⟩, ?_⟩
  intro H3 hH3
  have o3 := K3 hH3
  have l3 : AR H3 (oh nm v4 (⟨p.types, L⟩ : Program)) := by rw [hH3]; exact Cj (OVal.self _ _ _)
  have h2c : Ao H3 2 = some (⟨v2, false, 31, 2, [.agg [.An, .An]]⟩ : Box) := (o3 2 (by omega)).trans (by simp [Ao, h2b])
  have l3' := l3
  rw [Dl, AF] at l3'
  have r0 := BS l3'.1
  have r1 := BS l3'.2
  clear o1 o2 o3 l1 l2 b0 b1 hH hH2 hH3 RW
  simp +contextual -dsimp (maxSteps := 2000000) only [↓SD, SU, simprocAttr, BV, h2c, r0, r1, Cu, false_and]
  refine Af.post (oh nm v4 (⟨p.types, L⟩ : Program)) ?_
  simp +contextual -dsimp (maxSteps := 2000000) only [↓SD, SU, simprocAttr, r0, r1, Cu, false_and]
  exact ⟨PT l3 (by omega), v4, by rw [BV], rfl⟩
end Go.Proofs.YtppjinmlfcokaaaGreat
set_option linter.unusedVariables false
set_option maxRecDepth 100000
namespace Go.Proofs.YtppjinmlfcokaaaGreat
open Go.Proofs.YtppjinmlfcokaaaGreat.Av

theorem GG : Tryz.prog.follows .mixedOrders = true := by kernel_rfl

def FX : Ir Tryz.prog 87 [] [] 4 := ⟨_, _, Tryz.func87, GG, by kernel_rfl, Aj [] Tryz.progTables (by conv => lhs; cbv) (by kernel_rfl)⟩
def Jy : Ir Tryz.prog 86 [] [] 2 := ⟨_, _, Tryz.func86, GG, by kernel_rfl, Aj [] Tryz.progTables (by conv => lhs; cbv) (by kernel_rfl)⟩
def Ia : Ir Tryz.prog 43 [] [7] 1 := ⟨_, _, Tryz.func43, GG, by kernel_rfl, Aj [] Tryz.progTables (by conv => lhs; cbv) (by kernel_rfl)⟩
def F1 : Ir Tryz.prog 18 [] [] 1 := ⟨_, _, Tryz.func18, GG, by kernel_rfl, Aj [] Tryz.progTables (by conv => lhs; cbv) (by kernel_rfl)⟩
end Go.Proofs.YtppjinmlfcokaaaGreat
set_option linter.unusedVariables false
set_option maxRecDepth 100000
namespace Go.Proofs.YtppjinmlfcokaaaGreat
open Go.Proofs.YtppjinmlfcokaaaGreat.Av

theorem Fp : Tryz.prog.follows .mixedOrders = true := by kernel_rfl

def DZ : Ir Tryz.prog 88 [(5,5)] [] 3 := ⟨_, _, Tryz.func88, Fp, by kernel_rfl, Aj [] Tryz.progTables (by conv => lhs; cbv) (by kernel_rfl)⟩
def Jz : Ir Tryz.prog 84 [] [] 1 := ⟨_, _, Tryz.func84, Fp, by kernel_rfl, Aj [] Tryz.progTables (by conv => lhs; cbv) (by kernel_rfl)⟩
def H9 : Ir Tryz.prog 44 [] [7] 1 := ⟨_, _, Tryz.func44, Fp, by kernel_rfl, Aj [] Tryz.progTables (by conv => lhs; cbv) (by kernel_rfl)⟩
def HI : Ir Tryz.prog 30 [(7,7775),(9,7775),(8,7775),(10,7775)] [] 2 := ⟨_, _, Tryz.func30, Fp, by kernel_rfl, Aj [10001] Tryz.progTables (by conv => lhs; cbv) (by kernel_rfl)⟩
def FZ : Ir Tryz.prog 19 [] [] 1 := ⟨_, _, Tryz.func19, Fp, by kernel_rfl, Aj [] Tryz.progTables (by conv => lhs; cbv) (by kernel_rfl)⟩
end Go.Proofs.YtppjinmlfcokaaaGreat
set_option linter.unusedVariables false
namespace Go.Proofs.YtppjinmlfcokaaaGreat.Av
open Go.RowKit

theorem YI {P : Go.Program} {f : FuncId} {args : List AV} {res : AV} {Post : AV → Hp → Prop} (h : Bu P f args [] Post) (h1 : ∀ x ∈ args, Ad x) (h2 : Ad res) (hp : ∀ r hp', Post r hp' → r.pur (Jr hp') = res) : Ah P f args res := by
 obtain ⟨hc, h⟩ := h
 refine ⟨hc, h1, fun S w vs hS hv => ?_⟩
 have hW : WI ⟨w, S, G4 mu0 [], mu0⟩ S w mu0 [] := ⟨⟨rfl, rfl, rfl, Nat.le_refl _, fun _ _ _ => rfl⟩, hS, fun _ h => h, fun _ h => .inl h, ⟨1, Nat.zero_lt_one, fun _ _ _ => rfl, fun _ _ h => by cases h⟩, fun k bx h => (by cases h), fun k k' bx bx' B B' b h => (by cases h), Mu.le.refl _⟩
 have hno : ∀ b, ¬ G4 mu0 [] b := by rintro b ⟨k, bx, B, h, _⟩; cases h
 refine (h S w mu0 vs hW hv).mono fun e w' ⟨v, r, hp', S', μ', he, hpost, hvr, hw'⟩ => ?_
 obtain ⟨S1, w1, s1⟩ := WI.BZ (S := S') (Ei hp') hw'
 obtain ⟨S2, w2, s2⟩ := WI.BZ (S := S1) (Ei hp') w1
 have hv2 := VR.pur w2 (hvr.mono (fun b hb => s2 b (s1 b hb)) (BU.refl _ _) (Mu.le.refl _))
 have e : r.pur (BZ (Ei hp') (BZ (Ei hp') hp')) = res := hp r hp' hpost
 rw [e] at hv2
 have hsub : ∀ b, S2 b → S b ∨ (w.heap.size ≤ b ∧ b < w'.heap.size) := fun b hb => by
  rcases w2.new b hb with h | h | h
  ·exact .inl h
  ·exact .inr ⟨h, w2.lt b hb⟩
  ·exact (hno b h).elim
 exact ⟨v, he, (h2 _ _ _ _ hv2).mono hsub (BU.refl _ _) (Mu.le.refl _), ⟨hw'.ext.os, hw'.ext.tape, hw'.ext.output, hw'.ext.size, fun b hb => hw'.ext.block b hb (hno b)⟩⟩
end Go.Proofs.YtppjinmlfcokaaaGreat.Av
set_option linter.unusedVariables false
set_option linter.unusedSimpArgs false
namespace Go.Proofs.YtppjinmlfcokaaaGreat
open Go.RowKit Go.Proofs.YtppjinmlfcokaaaGreat.Av
open Go.Proofs.YtppjinmlfcokaaaGreat.Av.AVal (av)
open AVal (av)
open OVal (ov oh on)

theorem Af.XW {s : St} {T : St → Prop} (k : Nat) {b : Box} (hb : Ao s.hp k = some b) (h : Af ⟨s.fr, (k, ⟨b.ver, b.frz, b.ty, b.esz, b.es.map (AV.pur s.hp)⟩) :: s.hp⟩ T) : Af s T := by
 refine ⟨?_⟩
 rintro E nt a w ⟨hd, hn, S, μ, hw, hf⟩
 have hget' : ∀ j bj, Ao ((k, (⟨b.ver, b.frz, b.ty, b.esz, b.es.map (AV.pur s.hp)⟩ : Box)) :: s.hp) j = some bj → ∃ bo, Ao s.hp j = some bo ∧ bo.ver = bj.ver ∧ bo.frz = bj.frz := fun j bj hj => by
  simp only [Ao] at hj
  split at hj
  ·rename_i e; subst e; cases hj; exact ⟨b, hb, rfl, rfl⟩
  ·exact ⟨bj, hj, rfl, rfl⟩
 refine h.run E nt a w ⟨hd, hn, S, μ, ⟨hw.ext, hw.lt, hw.base, hw.new, hw.fresh, fun j bj hj => ?_, ?_, hw.le⟩, hf⟩
 ·simp only [Ao] at hj
  split at hj
  ·rename_i e; subst e; cases hj
   obtain ⟨B0, h0, hz0, hh⟩ := hw.box k b hb
   refine ⟨B0, h0, hz0, ?_⟩
   cases hbl : B0.blk with
   | none => rw [hbl] at hh; simp only at hh ⊢; rw [hh, List.map_nil]
   | some g =>
    rw [hbl] at hh
    obtain ⟨a1, a2, a3, cu, a4, a5, a6, a7, a8⟩ := hh
    have hok : ∀ e ∈ b.es, e.ok = true := fun e he => by
     by_cases hq : e.isAgg = true
     ·simp [AV.ok, hq]
     ·have : e.cells = [e] := by cases e <;> first | rfl | (simp [AV.isAgg] at hq)
      simp [AV.ok, (a8.1 e he).2 e (by rw [this]; simp)]
    exact ⟨a1, a2, a3, cu, a4, a5, a6, by simpa using a7, a8.pur hw hok⟩
  ·exact hw.box j bj hj
 ·intro j j' bj bj' Bj Bj' g hj hj' hne hf1 hf2 hBj hBj' hbl
  obtain ⟨bo, g1, g2, g3⟩ := hget' j bj hj
  obtain ⟨bo', g1', g2', g3'⟩ := hget' j' bj' hj'
  rw [← g2] at hBj; rw [← g2'] at hBj'
  exact hw.apart j j' bo bo' Bj Bj' g g1 g1' hne (g3.trans hf1) (g3'.trans hf2) hBj hBj' hbl
theorem Eo {P : Go.Program} {f : FuncId} {args : List AV} {r r' : AV} (h : Ah P f args r) (hr : ∀ S w v, VR S w mu0 v r → VR S w mu0 v r') : Ah P f args r' := ⟨h.1, h.2.1, fun S w vs h1 h2 => (h.2.2 S w vs h1 h2).mono fun e w' ⟨v, he, hv, hb⟩ => ⟨v, he, hr _ _ _ hv, hb⟩⟩
end Go.Proofs.YtppjinmlfcokaaaGreat
set_option linter.unusedVariables false
set_option maxRecDepth 100000
namespace Go.Proofs.YtppjinmlfcokaaaGreat
open Go.Proofs.YtppjinmlfcokaaaGreat.Av

theorem M0 : Tryz.prog.follows .mixedOrders = true := by kernel_rfl

def IQ : Ir Tryz.prog 65 [(28,7774)] [12] 1 := ⟨_, _, Tryz.func65, M0, by kernel_rfl, Aj [] Tryz.progTables (by conv => lhs; cbv) (by kernel_rfl)⟩
def HL : Ir Tryz.prog 41 [(13,90),(28,28), (36, 7777)] [9999, 11] 2 := ⟨_, _, Tryz.func41, M0, by kernel_rfl, Aj [] Tryz.progTables (by conv => lhs; cbv) (by kernel_rfl)⟩
end Go.Proofs.YtppjinmlfcokaaaGreat
set_option linter.unusedVariables false
set_option maxRecDepth 100000
namespace Go.Proofs.YtppjinmlfcokaaaGreat
open Go.Proofs.YtppjinmlfcokaaaGreat.Av

theorem TP : Tryz.prog.follows .mixedOrders = true := by kernel_rfl

def Km : Ir Tryz.prog 31 [] [12,14] 2 := ⟨_, _, Tryz.func31, TP, by kernel_rfl, Aj [] Tryz.progTables (by conv => lhs; cbv) (by kernel_rfl)⟩
end Go.Proofs.YtppjinmlfcokaaaGreat
set_option linter.unusedVariables false
set_option linter.unusedSimpArgs false
set_option maxRecDepth 100000
namespace Go.Proofs.YtppjinmlfcokaaaGreat
open Go.RowKit Go.Proofs.YtppjinmlfcokaaaGreat.Av Go.Proofs.YtppjinmlfcokaaaGreat.Ml
open Go.Proofs.YtppjinmlfcokaaaGreat.Av.AVal (av)

theorem Nt (p : Program) (hk : ∀ i, i < p.nodes.length → ∀ k ∈ Aq p.nodes i, (i : Int) < k ∧ k < p.nodes.length) (hx : Ac.bulk p.nodes ≤ 4294967296) : ∀ (f i : Nat), i < p.nodes.length → p.nodes.length - i ≤ f → Ah Tryz.prog 31 [av p, .int .i64 i] (av (Sub.mk (Bw p.nodes f i))) := by
 intro f
 induction f with
 | zero => intro i hi hf; omega
 | succ f ih =>
  intro i hi hf
  have hl := Ai p.nodes
  have e := getD_map av p.nodes i .top hi
  have em := List.getElem_mem hi
  obtain ⟨b1, b2, b3, b4⟩ := Eg hx em
  have hK : Aq p.nodes i = p.nodes[i].kids := by simp [Aq, hi]
  have hg : Bw p.nodes (f + 1) i = .mk p.nodes[i] (p.nodes[i].kids.map fun k => Bw p.nodes f k.toNat) := by rw [Bw, hK]; simp [hi]
  have hks := hk i hi
  rw [hK] at hks
  have hpl := Ai p.nodes[i].Ae
  refine Km.F rfl (by simp; exact ⟨AVal.clean p, BB _⟩) (AVal.clean _) ?_
  rw [hg]
  clear hg hK
  generalize p.nodes[i] = n at *
  simp +contextual -dsimp (maxSteps := 2000000) only [↓SD, SU, simprocAttr, Km, Ab, hi, e, As, Ag]
  intro v4 v5 v6
  refine DU (X := Nat × Nat) (fun x => ⟨[(2, .obj [.sl (p.types.map av), .sl (p.nodes.map av)]), (4, .ptr 4 v4 0 0), (5, .ptr 5 v5 0 0), (6, .ptr 6 v6 0 0), (24, .sl (n.Ae.map av)), (25, .int .i64 n.Ae.length), (26, .int .i64 x.1)], [(4, ⟨v4, false, 52, 7, [.agg [.int .i64 0, .int .i64 0, .int .i64 0, .str (bs []), .An, .An, .An]]⟩), (5, ⟨v5, false, 49, 6, [.agg [.int .i64 n.kind, .int .i64 n.pos, .int .i64 n.n, .str n.s, .sl (n.kids.map av), .sl (n.Ae.map av)]]⟩), (6, ⟨v6, false, 52, 7, [.agg [.int .i64 n.kind, .int .i64 n.pos, .int .i64 n.n, .str n.s, .sl (n.kids.map av), .row 54 x.2 x.1, .An]]⟩), (54, ⟨x.2, false, 86, 1, (n.Ae.take x.1).map av⟩)]⟩) (fun x => x.1 ≤ n.Ae.length) (fun x => n.Ae.length - x.1) (Af.FC 6 0 5 54 86 1 rfl rfl Nat.zero_lt_one rfl (by decide) (fun v => Af.le ⟨(0, v), Nat.zero_le _, rfl⟩ (by simp +contextual -dsimp only [↓SD, SU, simprocAttr]) (by simp +contextual -dsimp only [↓SD, SU, simprocAttr]))) ?_
  rintro ⟨k, u⟩ hk1
  simp only at hk1
  by_cases hlt : k < n.Ae.length
  ·have e2 := getD_map av n.Ae k .top hlt
   have hm := Au (List.getElem_mem hlt)
   have ht : n.Ae.take (k + 1) = n.Ae.take k ++ [n.Ae[k]] := List.take_succ_eq_append_getElem hlt
   have hk2 : (n.Ae.take k).length = k := by simp; omega
   have ht2 : List.take k ((n.Ae.take k).map av) = (n.Ae.take k).map av := List.take_of_length_le (by simp; omega)
   generalize n.Ae[k] = q at *
   have hql := Ai q.nodes
   have hqb : Ac.bulk q = Ac.bulk q.nodes + 1 := rfl
   simp +contextual -dsimp (maxSteps := 2000000) only [↓SD, SU, simprocAttr, Ab, hlt, e2, B7]
   intro v8 v30
   refine Am (X := Nat × Nat) (fun y => ⟨[(2, .obj [.sl (p.types.map av), .sl (p.nodes.map av)]), (4, .ptr 4 v4 0 0), (5, .ptr 5 v5 0 0), (6, .ptr 6 v6 0 0), (9, .row 30 y.2 y.1), (24, .sl (n.Ae.map av)), (25, .int .i64 n.Ae.length), (26, .int .i64 k), (32, .sl (q.nodes.map av)), (33, .int .i64 q.nodes.length), (34, .int .i64 y.1)], [(4, ⟨v4, false, 52, 7, [.agg [.int .i64 0, .int .i64 0, .int .i64 0, .str (bs []), .An, .An, .An]]⟩), (5, ⟨v5, false, 49, 6, [.agg [.int .i64 n.kind, .int .i64 n.pos, .int .i64 n.n, .str n.s, .sl (n.kids.map av), .sl (n.Ae.map av)]]⟩), (6, ⟨v6, false, 52, 7, [.agg [.int .i64 n.kind, .int .i64 n.pos, .int .i64 n.n, .str n.s, .sl (n.kids.map av), .row 54 u k, .An]]⟩), (54, ⟨u, false, 86, 1, (n.Ae.take k).map av⟩), (30, ⟨y.2, false, 96, 4, (q.nodes.take y.1).map av⟩)]⟩) (fun y => y.1 ≤ q.nodes.length) (fun y => q.nodes.length - y.1) (0, v30) (Nat.zero_le _) (by simp +contextual -dsimp only [↓SD, SU, simprocAttr]) (by simp +contextual -dsimp only [↓SD, SU, simprocAttr]) ?_
   rintro ⟨j, u2⟩ hj
   simp only at hj
   by_cases hlj : j < q.nodes.length
   ·have e3 := getD_map av q.nodes j .top hlj
    have hm3 := Au (List.getElem_mem hlj)
    have ht3 : q.nodes.take (j + 1) = q.nodes.take j ++ [q.nodes[j]] := List.take_succ_eq_append_getElem hlj
    have hk3 : (q.nodes.take j).length = j := by simp; omega
    have ht4 : List.take j ((q.nodes.take j).map av) = (q.nodes.take j).map av := List.take_of_length_le (by simp; omega)
    generalize q.nodes[j] = a at *
    have hb1 : Ac.bulk a = Ac.bulk a.kind + Ac.bulk a.n + Ac.bulk a.s + Ac.bulk a.kids + 1 := rfl
    have hl1 := Ai a.kids
    have hint : ∀ y ∈ a.kids.map (av : Int → AV), y.cells.length = 1 := fun y hy => by obtain ⟨x, _, rfl⟩ := List.mem_map.1 hy; rfl
    have hnp : (a.kids.map (av : Int → AV)).map (AV.pur []) = a.kids.map av := AB _ _
    simp +contextual -dsimp (maxSteps := 2000000) only [↓SD, SU, simprocAttr, Ab, hlj, e3, AU, AB]
    intro v11 v38
    refine ⟨⟨hint, by omega, by unfold maxLen; omega⟩, fun v38' => EK (Af.frz 38 (Af.here ?_))⟩
    simp +contextual -dsimp (maxSteps := 2000000) only [↓SD, SU, simprocAttr, Ab, hlj, e3, AU, AB, hk3, ht4, IG, List.take_length]
    refine ⟨⟨by omega, by unfold maxLen; omega⟩, fun u' => ⟨by omega, Af.le ⟨(j + 1, u'), ⟨hlj, (by first | omega | (simp only; omega))⟩, rfl⟩ (by simp +contextual -dsimp only [↓SD, SU, simprocAttr, Int.natCast_add]) (by simp +contextual -dsimp only [↓SD, SU, simprocAttr, ht3, List.map_append, AU])⟩⟩
   ·obtain rfl : j = q.nodes.length := by omega
    simp +contextual -dsimp (maxSteps := 2000000) only [↓SD, SU, simprocAttr, Ab, Nat.lt_irrefl, List.take_length]
    refine EK (Af.frz 30 (Af.here ?_))
    simp +contextual -dsimp (maxSteps := 2000000) only [↓SD, SU, simprocAttr, Ab, AB, hk2, ht2, IG, List.take_length]
    refine ⟨⟨by omega, by unfold maxLen; omega⟩, fun u' => ⟨by omega, Af.le ⟨(k + 1, u'), ⟨hlt, (by first | omega | (simp only; omega))⟩, rfl⟩ (by simp +contextual -dsimp only [↓SD, SU, simprocAttr, Int.natCast_add]) (by simp +contextual -dsimp only [↓SD, SU, simprocAttr, ht, List.map_append, B7])⟩⟩
  ·obtain rfl : k = n.Ae.length := by omega
   simp +contextual -dsimp (maxSteps := 2000000) only [↓SD, SU, simprocAttr, Ab, Nat.lt_irrefl, List.take_length]
   refine DU (X := Nat × Nat) (fun x => ⟨[(2, .obj [.sl (p.types.map av), .sl (p.nodes.map av)]), (4, .ptr 4 v4 0 0), (6, .ptr 6 v6 0 0), (59, .sl (n.kids.map av)), (60, .int .i64 n.kids.length), (61, .int .i64 x.1)], [(4, ⟨v4, false, 52, 7, [.agg [.int .i64 0, .int .i64 0, .int .i64 0, .str (bs []), .An, .An, .An]]⟩), (6, ⟨v6, false, 52, 7, [.agg [.int .i64 n.kind, .int .i64 n.pos, .int .i64 n.n, .str n.s, .sl (n.kids.map av), .row 54 u n.Ae.length, .row 71 x.2 x.1]]⟩), (54, ⟨u, false, 86, 1, n.Ae.map av⟩), (71, ⟨x.2, false, 52, 7, ((n.kids.take x.1).map fun k => Sub.mk (Bw p.nodes f k.toNat)).map av⟩)]⟩) (fun x => x.1 ≤ n.kids.length) (fun x => n.kids.length - x.1) (Af.FC 6 0 6 71 52 7 rfl rfl Nat.zero_lt_one rfl (by decide) (fun v => Af.le ⟨(0, v), Nat.zero_le _, rfl⟩ (by simp +contextual -dsimp only [↓SD, SU, simprocAttr]) (by simp +contextual -dsimp only [↓SD, SU, simprocAttr]))) ?_
   rintro ⟨j, u2⟩ hj
   simp only at hj
   by_cases hlt : j < n.kids.length
   ·have e2 := getD_map av n.kids j .top hlt
    have hkj := hks _ (List.getElem_mem hlt)
    have ht : n.kids.take (j + 1) = n.kids.take j ++ [n.kids[j]] := List.take_succ_eq_append_getElem hlt
    obtain ⟨m, hm⟩ : ∃ m : Nat, n.kids[j] = m := ⟨n.kids[j].toNat, by omega⟩
    rw [hm] at e2 hkj ht
    have C2 := ih m (by omega) (by omega)
    rw [Ag] at C2
    have hk2 : (n.kids.take j).length = j := by simp; omega
    have ht2 : List.take j (((n.kids.take j).map fun k => Sub.mk (Bw p.nodes f k.toNat)).map av) = ((n.kids.take j).map fun k => Sub.mk (Bw p.nodes f k.toNat)).map av := List.take_of_length_le (by simp; omega)
    simp +contextual -dsimp (maxSteps := 2000000) only [↓SD, SU, simprocAttr, Ab, hlt, e2, AA]
    refine Aa _ C2 ?_
    simp +contextual -dsimp (maxSteps := 2000000) only [↓SD, SU, simprocAttr, Ab, hlt, GV, Bh, Bi, BI, hk2, ht2, AB]
    refine ⟨⟨by omega, by unfold maxLen; omega⟩, fun u' => ⟨by omega, Af.le ⟨(j + 1, u'), ⟨hlt, (by first | omega | (simp only; omega))⟩, rfl⟩ (by simp +contextual -dsimp only [↓SD, SU, simprocAttr, Int.natCast_add]) (by simp +contextual -dsimp only [↓SD, SU, simprocAttr, ht, List.map_append, Int.toNat_natCast])⟩⟩
   ·obtain rfl : j = n.kids.length := by omega
    simp +contextual -dsimp (maxSteps := 2000000) only [↓SD, SU, simprocAttr, Ab, Nat.lt_irrefl, AB, List.take_length, IG]
    rw [Bb, List.take_of_length_le (by simp), List.map_map, List.map_map, List.map_map]; rfl

end Go.Proofs.YtppjinmlfcokaaaGreat
