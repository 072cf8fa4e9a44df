/-
 Fold OF THE PROGRAM, by its abstract text. Conditions: none.
-/
import Derived.Test.YtppjinmlfcokaaaGreatJFldW
import Derived.Test.YtppjinmlfcokaaaGreatJJ36
import Derived.Test.YtppjinmlfcokaaaGreatJFlatT
import Derived.Test.YtppjinmlfcokaaaGreatJJ28
import Derived.Test.YtppjinmlfcokaaaGreatJJ37
import Derived.Test.YtppjinmlfcokaaaGreatProg
import Derived.Test.YtppjinmlfcokaaaGreatJAvDraw
import Derived.Test.YtppjinmlfcokaaaGreatJAvSimp
import Derived.Test.YtppjinmlfcokaaaGreatJAvRen
set_option linter.unusedVariables false
set_option linter.unusedSimpArgs false
set_option maxRecDepth 100000
namespace Go.Proofs.YtppjinmlfcokaaaGreat
open Go.RowKit Go.Proofs.YtppjinmlfcokaaaGreat.Av Go.Proofs.YtppjinmlfcokaaaGreat.Ml
open Go.Proofs.YtppjinmlfcokaaaGreat.Av.AVal (av)
open OVal (ov oh on)

set_option maxHeartbeats 4000000 in
theorem On (nm : Nat) (p : Program) (hx : Ac.bulk p ≤ 4294967296) (hB : ∀ n ∈ p.nodes, Ac.bulk n ≤ 2100000) : AU Tryz.prog 24 [av p] [] (BW nm (Dh AE p)) := by
 obtain ⟨q1, q2, q3, q4⟩ := Ck hx
 have C := ER p hx
 rw [Ad] at C
 cases hb : Db p with
 | false =>
  rw [hb] at C
  rw [Dh, if_neg (by rw [hb]; simp)]
  refine C9 (Post := fun r hp' => r = .agg [.Aj, .Aj] ∧ hp' = []) (F5.H rfl ?_) ?_
  case refine_2 =>
   rintro r hp' ⟨rfl, rfl⟩
   refine Af.Vz 0 0 (sub nm 0) 72 3 rfl rfl fun u => ?_
   refine Af.Vz 0 1 (sub nm 1) 49 6 rfl rfl fun v => ?_
   have hne : sub nm 1 ≠ sub nm 0 := fun e => by have := (Em e).2; omega
   refine Af.le (t := ⟨[(0, .agg [.row (sub nm 0) u 0, .row (sub nm 1) v 0])], [(sub nm 0, ⟨u, false, 72, 3, []⟩), (sub nm 1, ⟨v, false, 49, 6, []⟩)]⟩) ⟨fun q => if q = sub nm 0 then u else v, ?_, ?_⟩ (by simp +contextual -dsimp only [↓SD, SU, simprocAttr]) ⟨?_, AZ, trivial⟩
   ·rw [AA, if_pos rfl, if_neg hne]; rfl
   ·rw [BP, B8, B8, EL, Dv, Dv, if_pos rfl, if_neg hne]; rfl
   ·rw [BE hne]; exact AZ
  simp +contextual -dsimp (maxSteps := 2000000) only [↓SD, SU, simprocAttr, F5, Ad]
  intro v2
  refine Ab _ C ?_
  simp +contextual -dsimp (maxSteps := 2000000) only [↓SD, SU, simprocAttr]
  refine Af.post [] ?_
  simp +contextual -dsimp (maxSteps := 2000000) only [↓SD, SU, simprocAttr]
 | true =>
  rw [hb] at C
  obtain ⟨h1, h2, h3, h4, h5, h6⟩ := D5 hx hb
  obtain ⟨f1, f2, f3, f4, f5⟩ := CJ hx hb
  have hk : ∀ i, i < p.nodes.length → ∀ k ∈ Bp p.nodes i, (i : Int) < k ∧ k < p.nodes.length := fun i hi k hk => DM f3 hi hk
  obtain ⟨g, hg⟩ : ∃ g, g = sub nm 2 := ⟨_, rfl⟩
  have hgg : 10000 ≤ g := by rw [hg]; exact Ci _ _
  have hge2 : ∀ q, q < 10000 → (q == g) = false := fun q hq => beq_eq_false_iff_ne.2 (by omega)
  have hg3 : ¬ InT g 3 := fun h => by have := h.le; omega
  have G := Nj p.nodes hk q2 p.nodes.length g 0 (by omega) (by omega)
  rw [show Bx p.nodes p.nodes.length 0 = A2 p.nodes 0 from rfl, show ((0 : Nat) : Int) = 0 from rfl] at G
  have hrk := Xv hx hb hB
  have hrk0 := LV hx hb
  have hsz : (A2 p.nodes 0).size ≤ 600 := by have := h4; omega
  have hR := Hw Lg Rn (HP (B := 2100000) (by decide)) _ hrk
  have RW := Oc Lg Rn AE 56 (HP (B := 2100000) (by decide)) Abu _ hrk hsz g hgg
  have PO := Gz nm p.types (Bh AE (A2 p.nodes 0)) (UR _ hR.1.1) (by omega) q1
  have hlen := Di (Bh AE (A2 p.nodes 0)) 0
  rw [Dh, if_pos hb]
  refine F5.H rfl ?_
  have hle : (BF 0 (Bh AE (A2 p.nodes 0))).length ≤ 600 := by omega
  clear hlen
  have hlt : ¬ (600 < ((BF 0 (Bh AE (A2 p.nodes 0))).length : Int)) := by omega
  generalize BF 0 (Bh AE (A2 p.nodes 0)) = L at *
  generalize Bh AE (A2 p.nodes 0) = T' at *
  generalize A2 p.nodes 0 = T at *
  simp +contextual -dsimp (maxSteps := 2000000) only [↓SD, SU, simprocAttr, F5, Ad]
  intro v2
  refine Ab _ C ?_
  simp +contextual -dsimp (maxSteps := 2000000) only [↓SD, SU, simprocAttr]
  refine As [] G (by simp +contextual -dsimp only [↓SD, SU, simprocAttr]) ?_
  rintro r hp' ⟨vs, rfl, rfl⟩ H hH
  rw [Bs] at hH
  have o1 := NI hgg hH
  have l1 : Ax H (oh g vs T) := by rw [hH]; exact Bz (OVal.self _ _ _)
  have h2a : An H 2 = some (⟨v2, false, 31, 2, [.agg [.Aj, .Aj]]⟩ : Box) := (o1 2 (by omega)).trans (by simp [An])
  obtain ⟨es0, b0⟩ := Ca l1
  have RW := RW vs
  rw [AD] at RW
  simp +contextual -dsimp (maxSteps := 2000000) only [↓SD, SU, simprocAttr, AD, b0, hge2, false_and]
  refine As (on g T) RW (Dd l1) ?_
  rintro r hp2 ⟨v1, rfl, rfl⟩ H2 hH2
  have o2 := MK hgg hH2
  have l2 := Cb hH2
  have h2b : An H2 2 = some (⟨v2, false, 31, 2, [.agg [.Aj, .Aj]]⟩ : Box) := (o2 2 (by omega)).trans (by simp [An, h2a])
  obtain ⟨es1, b1⟩ := Ca l2
  simp +contextual -dsimp (maxSteps := 2000000) only [↓SD, SU, simprocAttr, AD, b1, hge2, false_and]
  refine Dp (on g T') PO (Aw (by simp +contextual -dsimp only [↓SD, SU, simprocAttr]) (Aw (EZ (AD g v1 T').symm l2) rfl)) ?_
  rintro r hp3 ⟨v4, rfl, rfl⟩
  refine ⟨⟨GA _ _ _, Fh _ _ _⟩, ?_⟩
  intro H3 hH3
  have o3 := FT hH3
  have l3 : Ax H3 (oh nm v4 (⟨p.types, L⟩ : Program)) := by rw [hH3]; exact Bz (OVal.self _ _ _)
  have h2c : An H3 2 = some (⟨v2, false, 31, 2, [.agg [.Aj, .Aj]]⟩ : Box) := (o3 2 (by omega)).trans (by simp [An, h2b])
  have l3' := l3
  rw [BP, Ap] at l3'
  have r0 := Aq l3'.1
  have r1 := Aq l3'.2
  clear o1 o2 o3 l1 l2 b0 b1 hH hH2 hH3 RW
  simp +contextual -dsimp (maxSteps := 2000000) only [↓SD, SU, simprocAttr, AA, h2c, r0, r1, AQ, false_and]
  refine Af.post (oh nm v4 (⟨p.types, L⟩ : Program)) ?_
  simp +contextual -dsimp (maxSteps := 2000000) only [↓SD, SU, simprocAttr, r0, r1, AQ, false_and]
  exact ⟨KC l3 (by omega), v4, by rw [AA], rfl⟩
end Go.Proofs.YtppjinmlfcokaaaGreat
set_option linter.unusedVariables false
set_option maxRecDepth 100000
namespace Go.Proofs.YtppjinmlfcokaaaGreat
open Go.Proofs.YtppjinmlfcokaaaGreat.Av

theorem GG : Tryz.prog.follows .mixedOrders = true := by kernel_rfl

def FX : Ir Tryz.prog 87 [] [] 4 := ⟨_, _, Tryz.func87, GG, by kernel_rfl, Ah [] Tryz.progTables (by conv => lhs; cbv) (by kernel_rfl)⟩
def JY : Ir Tryz.prog 86 [] [] 2 := ⟨_, _, Tryz.func86, GG, by kernel_rfl, Ah [] Tryz.progTables (by conv => lhs; cbv) (by kernel_rfl)⟩
def Ia : Ir Tryz.prog 43 [] [7] 1 := ⟨_, _, Tryz.func43, GG, by kernel_rfl, Ah [] Tryz.progTables (by conv => lhs; cbv) (by kernel_rfl)⟩
def F1 : Ir Tryz.prog 18 [] [] 1 := ⟨_, _, Tryz.func18, GG, by kernel_rfl, Ah [] Tryz.progTables (by conv => lhs; cbv) (by kernel_rfl)⟩
end Go.Proofs.YtppjinmlfcokaaaGreat
set_option linter.unusedVariables false
set_option maxRecDepth 100000
namespace Go.Proofs.YtppjinmlfcokaaaGreat
open Go.Proofs.YtppjinmlfcokaaaGreat.Av

theorem Fo : Tryz.prog.follows .mixedOrders = true := by kernel_rfl

def DQ : Ir Tryz.prog 88 [(5,5)] [] 3 := ⟨_, _, Tryz.func88, Fo, by kernel_rfl, Ah [] Tryz.progTables (by conv => lhs; cbv) (by kernel_rfl)⟩
def JZ : Ir Tryz.prog 84 [] [] 1 := ⟨_, _, Tryz.func84, Fo, by kernel_rfl, Ah [] Tryz.progTables (by conv => lhs; cbv) (by kernel_rfl)⟩
def H9 : Ir Tryz.prog 44 [] [7] 1 := ⟨_, _, Tryz.func44, Fo, by kernel_rfl, Ah [] Tryz.progTables (by conv => lhs; cbv) (by kernel_rfl)⟩
def HF : Ir Tryz.prog 30 [(7,7775),(9,7775),(8,7775),(10,7775)] [] 2 := ⟨_, _, Tryz.func30, Fo, by kernel_rfl, Ah [10001] Tryz.progTables (by conv => lhs; cbv) (by kernel_rfl)⟩
def FY : Ir Tryz.prog 19 [] [] 1 := ⟨_, _, Tryz.func19, Fo, by kernel_rfl, Ah [] Tryz.progTables (by conv => lhs; cbv) (by kernel_rfl)⟩
end Go.Proofs.YtppjinmlfcokaaaGreat
set_option linter.unusedVariables false
namespace Go.Proofs.YtppjinmlfcokaaaGreat.Av
open Go.RowKit

theorem Yu {P : Go.Program} {f : FuncId} {args : List AV} {res : AV} {Post : AV → Hp → Prop} (h : AU P f args [] Post) (h1 : ∀ x ∈ args, Ae x) (h2 : Ae res) (hp : ∀ r hp', Post r hp' → r.pur (JN hp') = res) : Ak P f args res := by
 obtain ⟨hc, h⟩ := h
 refine ⟨hc, h1, fun S w vs hS hv => ?_⟩
 have hW : WI ⟨w, S, GY mu0 [], mu0⟩ S w mu0 [] := ⟨⟨rfl, rfl, rfl, Nat.le_refl _, fun _ _ _ => rfl⟩, hS, fun _ h => h, fun _ h => .inl h, ⟨1, Nat.zero_lt_one, fun _ _ _ => rfl, fun _ _ h => by cases h⟩, fun k bx h => (by cases h), fun k k' bx bx' B B' b h => (by cases h), Mu.le.refl _⟩
 have hno : ∀ b, ¬ GY mu0 [] b := by rintro b ⟨k, bx, B, h, _⟩; cases h
 refine (h S w mu0 vs hW hv).mono fun e w' ⟨v, r, hp', S', μ', he, hpost, hvr, hw'⟩ => ?_
 obtain ⟨S1, w1, s1⟩ := WI.B3 (S := S') (D9 hp') hw'
 obtain ⟨S2, w2, s2⟩ := WI.B3 (S := S1) (D9 hp') w1
 have hv2 := VR.pur w2 (hvr.mono (fun b hb => s2 b (s1 b hb)) (BZ.refl _ _) (Mu.le.refl _))
 have e : r.pur (B3 (D9 hp') (B3 (D9 hp') hp')) = res := hp r hp' hpost
 rw [e] at hv2
 have hsub : ∀ b, S2 b → S b ∨ (w.heap.size ≤ b ∧ b < w'.heap.size) := fun b hb => by
  rcases w2.new b hb with h | h | h
  ·exact .inl h
  ·exact .inr ⟨h, w2.lt b hb⟩
  ·exact (hno b h).elim
 exact ⟨v, he, (h2 _ _ _ _ hv2).mono hsub (BZ.refl _ _) (Mu.le.refl _), ⟨hw'.ext.os, hw'.ext.tape, hw'.ext.output, hw'.ext.size, fun b hb => hw'.ext.block b hb (hno b)⟩⟩
end Go.Proofs.YtppjinmlfcokaaaGreat.Av
set_option linter.unusedVariables false
set_option linter.unusedSimpArgs false
namespace Go.Proofs.YtppjinmlfcokaaaGreat
open Go.RowKit Go.Proofs.YtppjinmlfcokaaaGreat.Av
open Go.Proofs.YtppjinmlfcokaaaGreat.Av.AVal (av)
open AVal (av)
open OVal (ov oh on)

theorem Af.U1 {s : St} {T : St → Prop} (k : Nat) {b : Box} (hb : An s.hp k = some b) (h : Af ⟨s.fr, (k, ⟨b.ver, b.frz, b.ty, b.esz, b.es.map (AV.pur s.hp)⟩) :: s.hp⟩ T) : Af s T := by
 refine ⟨?_⟩
 rintro E nt a w ⟨hd, hn, S, μ, hw, hf⟩
 have hget' : ∀ j bj, An ((k, (⟨b.ver, b.frz, b.ty, b.esz, b.es.map (AV.pur s.hp)⟩ : Box)) :: s.hp) j = some bj → ∃ bo, An s.hp j = some bo ∧ bo.ver = bj.ver ∧ bo.frz = bj.frz := fun j bj hj => by
  simp only [An] at hj
  split at hj
  ·rename_i e; subst e; cases hj; exact ⟨b, hb, rfl, rfl⟩
  ·exact ⟨bj, hj, rfl, rfl⟩
 refine h.run E nt a w ⟨hd, hn, S, μ, ⟨hw.ext, hw.lt, hw.base, hw.new, hw.fresh, fun j bj hj => ?_, ?_, hw.le⟩, hf⟩
 ·simp only [An] at hj
  split at hj
  ·rename_i e; subst e; cases hj
   obtain ⟨B0, h0, hz0, hh⟩ := hw.box k b hb
   refine ⟨B0, h0, hz0, ?_⟩
   cases hbl : B0.blk with
   | none => rw [hbl] at hh; simp only at hh ⊢; rw [hh, List.map_nil]
   | some g =>
    rw [hbl] at hh
    obtain ⟨a1, a2, a3, cu, a4, a5, a6, a7, a8⟩ := hh
    have hok : ∀ e ∈ b.es, e.ok = true := fun e he => by
     by_cases hq : e.isAgg = true
     ·simp [AV.ok, hq]
     ·have : e.cells = [e] := by cases e <;> first | rfl | (simp [AV.isAgg] at hq)
      simp [AV.ok, (a8.1 e he).2 e (by rw [this]; simp)]
    exact ⟨a1, a2, a3, cu, a4, a5, a6, by simpa using a7, a8.pur hw hok⟩
  ·exact hw.box j bj hj
 ·intro j j' bj bj' Bj Bj' g hj hj' hne hf1 hf2 hBj hBj' hbl
  obtain ⟨bo, g1, g2, g3⟩ := hget' j bj hj
  obtain ⟨bo', g1', g2', g3'⟩ := hget' j' bj' hj'
  rw [← g2] at hBj; rw [← g2'] at hBj'
  exact hw.apart j j' bo bo' Bj Bj' g g1 g1' hne (g3.trans hf1) (g3'.trans hf2) hBj hBj' hbl
theorem DK {P : Go.Program} {f : FuncId} {args : List AV} {r r' : AV} (h : Ak P f args r) (hr : ∀ S w v, VR S w mu0 v r → VR S w mu0 v r') : Ak P f args r' := ⟨h.1, h.2.1, fun S w vs h1 h2 => (h.2.2 S w vs h1 h2).mono fun e w' ⟨v, he, hv, hb⟩ => ⟨v, he, hr _ _ _ hv, hb⟩⟩
end Go.Proofs.YtppjinmlfcokaaaGreat
set_option linter.unusedVariables false
set_option maxRecDepth 100000
namespace Go.Proofs.YtppjinmlfcokaaaGreat
open Go.Proofs.YtppjinmlfcokaaaGreat.Av

theorem Nn : Tryz.prog.follows .mixedOrders = true := by kernel_rfl

def I3 : Ir Tryz.prog 65 [(28,7774)] [12] 1 := ⟨_, _, Tryz.func65, Nn, by kernel_rfl, Ah [] Tryz.progTables (by conv => lhs; cbv) (by kernel_rfl)⟩
def HH : Ir Tryz.prog 41 [(13,90),(28,28), (36, 7777)] [9999, 11] 2 := ⟨_, _, Tryz.func41, Nn, by kernel_rfl, Ah [] Tryz.progTables (by conv => lhs; cbv) (by kernel_rfl)⟩
end Go.Proofs.YtppjinmlfcokaaaGreat
set_option linter.unusedVariables false
set_option maxRecDepth 100000
namespace Go.Proofs.YtppjinmlfcokaaaGreat
open Go.Proofs.YtppjinmlfcokaaaGreat.Av

theorem TR : Tryz.prog.follows .mixedOrders = true := by kernel_rfl

def KG : Ir Tryz.prog 31 [] [12,14] 2 := ⟨_, _, Tryz.func31, TR, by kernel_rfl, Ah [] Tryz.progTables (by conv => lhs; cbv) (by kernel_rfl)⟩
end Go.Proofs.YtppjinmlfcokaaaGreat
set_option linter.unusedVariables false
set_option linter.unusedSimpArgs false
set_option maxRecDepth 100000
namespace Go.Proofs.YtppjinmlfcokaaaGreat
open Go.RowKit Go.Proofs.YtppjinmlfcokaaaGreat.Av Go.Proofs.YtppjinmlfcokaaaGreat.Ml
open Go.Proofs.YtppjinmlfcokaaaGreat.Av.AVal (av)

theorem Lr (p : Program) (hk : ∀ i, i < p.nodes.length → ∀ k ∈ Bp p.nodes i, (i : Int) < k ∧ k < p.nodes.length) (hx : Ac.bulk p.nodes ≤ 4294967296) : ∀ (f i : Nat), i < p.nodes.length → p.nodes.length - i ≤ f → Ak Tryz.prog 31 [av p, .int .i64 i] (av (Sub.mk (Bx p.nodes f i))) := by
 intro f
 induction f with
 | zero => intro i hi hf; omega
 | succ f ih =>
  intro i hi hf
  have hl := Ag p.nodes
  have e := getD_map av p.nodes i .top hi
  have em := List.getElem_mem hi
  obtain ⟨b1, b2, b3, b4⟩ := D7 hx em
  have hK : Bp p.nodes i = p.nodes[i].kids := by simp [Bp, hi]
  have hg : Bx p.nodes (f + 1) i = .mk p.nodes[i] (p.nodes[i].kids.map fun k => Bx p.nodes f k.toNat) := by rw [Bx, hK]; simp [hi]
  have hks := hk i hi
  rw [hK] at hks
  have hpl := Ag p.nodes[i].Ai
  refine KG.F rfl (by simp; exact ⟨AVal.clean p, Bo _⟩) (AVal.clean _) ?_
  rw [hg]
  clear hg hK
  generalize p.nodes[i] = n at *
  simp +contextual -dsimp (maxSteps := 2000000) only [↓SD, SU, simprocAttr, KG, Aa, hi, e, Ay, Ad]
  intro v4 v5 v6
  refine DL (X := Nat × Nat) (fun x => ⟨[(2, .obj [.sl (p.types.map av), .sl (p.nodes.map av)]), (4, .ptr 4 v4 0 0), (5, .ptr 5 v5 0 0), (6, .ptr 6 v6 0 0), (24, .sl (n.Ai.map av)), (25, .int .i64 n.Ai.length), (26, .int .i64 x.1)], [(4, ⟨v4, false, 52, 7, [.agg [.int .i64 0, .int .i64 0, .int .i64 0, .str (bs []), .Aj, .Aj, .Aj]]⟩), (5, ⟨v5, false, 49, 6, [.agg [.int .i64 n.kind, .int .i64 n.pos, .int .i64 n.n, .str n.s, .sl (n.kids.map av), .sl (n.Ai.map av)]]⟩), (6, ⟨v6, false, 52, 7, [.agg [.int .i64 n.kind, .int .i64 n.pos, .int .i64 n.n, .str n.s, .sl (n.kids.map av), .row 54 x.2 x.1, .Aj]]⟩), (54, ⟨x.2, false, 86, 1, (n.Ai.take x.1).map av⟩)]⟩) (fun x => x.1 ≤ n.Ai.length) (fun x => n.Ai.length - x.1) (Af.FA 6 0 5 54 86 1 rfl rfl Nat.zero_lt_one rfl (by decide) (fun v => Af.le ⟨(0, v), Nat.zero_le _, rfl⟩ (by simp +contextual -dsimp only [↓SD, SU, simprocAttr]) (by simp +contextual -dsimp only [↓SD, SU, simprocAttr]))) ?_
  rintro ⟨k, u⟩ hk1
  simp only at hk1
  by_cases hlt : k < n.Ai.length
  ·have e2 := getD_map av n.Ai k .top hlt
   have hm := AG (List.getElem_mem hlt)
   have ht : n.Ai.take (k + 1) = n.Ai.take k ++ [n.Ai[k]] := List.take_succ_eq_append_getElem hlt
   have hk2 : (n.Ai.take k).length = k := by simp; omega
   have ht2 : List.take k ((n.Ai.take k).map av) = (n.Ai.take k).map av := List.take_of_length_le (by simp; omega)
   generalize n.Ai[k] = q at *
   have hql := Ag q.nodes
   have hqb : Ac.bulk q = Ac.bulk q.nodes + 1 := rfl
   simp +contextual -dsimp (maxSteps := 2000000) only [↓SD, SU, simprocAttr, Aa, hlt, e2, Cc]
   intro v8 v30
   refine Am (X := Nat × Nat) (fun y => ⟨[(2, .obj [.sl (p.types.map av), .sl (p.nodes.map av)]), (4, .ptr 4 v4 0 0), (5, .ptr 5 v5 0 0), (6, .ptr 6 v6 0 0), (9, .row 30 y.2 y.1), (24, .sl (n.Ai.map av)), (25, .int .i64 n.Ai.length), (26, .int .i64 k), (32, .sl (q.nodes.map av)), (33, .int .i64 q.nodes.length), (34, .int .i64 y.1)], [(4, ⟨v4, false, 52, 7, [.agg [.int .i64 0, .int .i64 0, .int .i64 0, .str (bs []), .Aj, .Aj, .Aj]]⟩), (5, ⟨v5, false, 49, 6, [.agg [.int .i64 n.kind, .int .i64 n.pos, .int .i64 n.n, .str n.s, .sl (n.kids.map av), .sl (n.Ai.map av)]]⟩), (6, ⟨v6, false, 52, 7, [.agg [.int .i64 n.kind, .int .i64 n.pos, .int .i64 n.n, .str n.s, .sl (n.kids.map av), .row 54 u k, .Aj]]⟩), (54, ⟨u, false, 86, 1, (n.Ai.take k).map av⟩), (30, ⟨y.2, false, 96, 4, (q.nodes.take y.1).map av⟩)]⟩) (fun y => y.1 ≤ q.nodes.length) (fun y => q.nodes.length - y.1) (0, v30) (Nat.zero_le _) (by simp +contextual -dsimp only [↓SD, SU, simprocAttr]) (by simp +contextual -dsimp only [↓SD, SU, simprocAttr]) ?_
   rintro ⟨j, u2⟩ hj
   simp only at hj
   by_cases hlj : j < q.nodes.length
   ·have e3 := getD_map av q.nodes j .top hlj
    have hm3 := AG (List.getElem_mem hlj)
    have ht3 : q.nodes.take (j + 1) = q.nodes.take j ++ [q.nodes[j]] := List.take_succ_eq_append_getElem hlj
    have hk3 : (q.nodes.take j).length = j := by simp; omega
    have ht4 : List.take j ((q.nodes.take j).map av) = (q.nodes.take j).map av := List.take_of_length_le (by simp; omega)
    generalize q.nodes[j] = a at *
    have hb1 : Ac.bulk a = Ac.bulk a.kind + Ac.bulk a.n + Ac.bulk a.s + Ac.bulk a.kids + 1 := rfl
    have hl1 := Ag a.kids
    have hint : ∀ y ∈ a.kids.map (av : Int → AV), y.cells.length = 1 := fun y hy => by obtain ⟨x, _, rfl⟩ := List.mem_map.1 hy; rfl
    have hnp : (a.kids.map (av : Int → AV)).map (AV.pur []) = a.kids.map av := AK _ _
    simp +contextual -dsimp (maxSteps := 2000000) only [↓SD, SU, simprocAttr, Aa, hlj, e3, A3, AK]
    intro v11 v38
    refine ⟨⟨hint, by omega, by unfold maxLen; omega⟩, fun v38' => Eh (Af.frz 38 (Af.here ?_))⟩
    simp +contextual -dsimp (maxSteps := 2000000) only [↓SD, SU, simprocAttr, Aa, hlj, e3, A3, AK, hk3, ht4, IL, List.take_length]
    refine ⟨⟨by omega, by unfold maxLen; omega⟩, fun u' => ⟨by omega, Af.le ⟨(j + 1, u'), ⟨hlj, (by first | omega | (simp only; omega))⟩, rfl⟩ (by simp +contextual -dsimp only [↓SD, SU, simprocAttr, Int.natCast_add]) (by simp +contextual -dsimp only [↓SD, SU, simprocAttr, ht3, List.map_append, A3])⟩⟩
   ·obtain rfl : j = q.nodes.length := by omega
    simp +contextual -dsimp (maxSteps := 2000000) only [↓SD, SU, simprocAttr, Aa, Nat.lt_irrefl, List.take_length]
    refine Eh (Af.frz 30 (Af.here ?_))
    simp +contextual -dsimp (maxSteps := 2000000) only [↓SD, SU, simprocAttr, Aa, AK, hk2, ht2, IL, List.take_length]
    refine ⟨⟨by omega, by unfold maxLen; omega⟩, fun u' => ⟨by omega, Af.le ⟨(k + 1, u'), ⟨hlt, (by first | omega | (simp only; omega))⟩, rfl⟩ (by simp +contextual -dsimp only [↓SD, SU, simprocAttr, Int.natCast_add]) (by simp +contextual -dsimp only [↓SD, SU, simprocAttr, ht, List.map_append, Cc])⟩⟩
  ·obtain rfl : k = n.Ai.length := by omega
   simp +contextual -dsimp (maxSteps := 2000000) only [↓SD, SU, simprocAttr, Aa, Nat.lt_irrefl, List.take_length]
   refine DL (X := Nat × Nat) (fun x => ⟨[(2, .obj [.sl (p.types.map av), .sl (p.nodes.map av)]), (4, .ptr 4 v4 0 0), (6, .ptr 6 v6 0 0), (59, .sl (n.kids.map av)), (60, .int .i64 n.kids.length), (61, .int .i64 x.1)], [(4, ⟨v4, false, 52, 7, [.agg [.int .i64 0, .int .i64 0, .int .i64 0, .str (bs []), .Aj, .Aj, .Aj]]⟩), (6, ⟨v6, false, 52, 7, [.agg [.int .i64 n.kind, .int .i64 n.pos, .int .i64 n.n, .str n.s, .sl (n.kids.map av), .row 54 u n.Ai.length, .row 71 x.2 x.1]]⟩), (54, ⟨u, false, 86, 1, n.Ai.map av⟩), (71, ⟨x.2, false, 52, 7, ((n.kids.take x.1).map fun k => Sub.mk (Bx p.nodes f k.toNat)).map av⟩)]⟩) (fun x => x.1 ≤ n.kids.length) (fun x => n.kids.length - x.1) (Af.FA 6 0 6 71 52 7 rfl rfl Nat.zero_lt_one rfl (by decide) (fun v => Af.le ⟨(0, v), Nat.zero_le _, rfl⟩ (by simp +contextual -dsimp only [↓SD, SU, simprocAttr]) (by simp +contextual -dsimp only [↓SD, SU, simprocAttr]))) ?_
   rintro ⟨j, u2⟩ hj
   simp only at hj
   by_cases hlt : j < n.kids.length
   ·have e2 := getD_map av n.kids j .top hlt
    have hkj := hks _ (List.getElem_mem hlt)
    have ht : n.kids.take (j + 1) = n.kids.take j ++ [n.kids[j]] := List.take_succ_eq_append_getElem hlt
    obtain ⟨m, hm⟩ : ∃ m : Nat, n.kids[j] = m := ⟨n.kids[j].toNat, by omega⟩
    rw [hm] at e2 hkj ht
    have C2 := ih m (by omega) (by omega)
    rw [Ad] at C2
    have hk2 : (n.kids.take j).length = j := by simp; omega
    have ht2 : List.take j (((n.kids.take j).map fun k => Sub.mk (Bx p.nodes f k.toNat)).map av) = ((n.kids.take j).map fun k => Sub.mk (Bx p.nodes f k.toNat)).map av := List.take_of_length_le (by simp; omega)
    simp +contextual -dsimp (maxSteps := 2000000) only [↓SD, SU, simprocAttr, Aa, hlt, e2, A7]
    refine Ab _ C2 ?_
    simp +contextual -dsimp (maxSteps := 2000000) only [↓SD, SU, simprocAttr, Aa, hlt, GQ, Bi, Bl, BN, hk2, ht2, AK]
    refine ⟨⟨by omega, by unfold maxLen; omega⟩, fun u' => ⟨by omega, Af.le ⟨(j + 1, u'), ⟨hlt, (by first | omega | (simp only; omega))⟩, rfl⟩ (by simp +contextual -dsimp only [↓SD, SU, simprocAttr, Int.natCast_add]) (by simp +contextual -dsimp only [↓SD, SU, simprocAttr, ht, List.map_append, Int.toNat_natCast])⟩⟩
   ·obtain rfl : j = n.kids.length := by omega
    simp +contextual -dsimp (maxSteps := 2000000) only [↓SD, SU, simprocAttr, Aa, Nat.lt_irrefl, AK, List.take_length, IL]
    rw [Bf, List.take_of_length_le (by simp), List.map_map, List.map_map, List.map_map]; rfl

end Go.Proofs.YtppjinmlfcokaaaGreat
