/-
 THE RULE OF Fold, on a tree in rows of its own, by the program's abstract text. Conditions: none.
-/
import Derived.Test.YtppjinmlfcokaaaGreatVJ36
import Derived.Test.YtppjinmlfcokaaaGreatVJ26
import Derived.Test.YtppjinmlfcokaaaGreatVPrimW
import Derived.Test.YtppjinmlfcokaaaGreatVJ38
set_option linter.unusedVariables false
set_option linter.unusedSimpArgs false
set_option maxRecDepth 100000
namespace Go.Proofs.YtppjinmlfcokaaaGreat
open Go.RowKit Go.Proofs.YtppjinmlfcokaaaGreat.Av Go.Proofs.YtppjinmlfcokaaaGreat.Ml
open Go.Proofs.YtppjinmlfcokaaaGreat.Av.AVal (av)
open OVal (ov oh on)

def Xw (T : Tr) (r : AV) (hp' : Hp) : Prop := ∃ q vs, r = ov q vs T ∧ hp' = oh q vs T
theorem AbT {T : Tr} {r : AV} {hp' : Hp} (nm : Nat) (h : Xw T r hp') : Af ⟨[(0, r)], hp'⟩ fun s => DC nm T (Bp s.fr 0) s.hp := by
 obtain ⟨q, vs, rfl, rfl⟩ := h
 refine Af.Aft 0 q nm T rfl (OVal.self _ _ _) fun N => ?_
 exact Af.le (t := ⟨[(0, ov nm (fun _ => N) T)], oh nm (fun _ => N) T⟩) ⟨fun _ => N, rfl, rfl⟩ (by simp [OA, Bp]) (Cj (OVal.self _ _ _))
theorem AeT {H : Hp} {v z1 z2 : Nat} {m : Node} (hm : m.Ae = []) (h0 : Ao H 66 = some ⟨v, false, 102, 6, [.agg [.int .i64 m.kind, .int .i64 m.pos, .int .i64 m.n, .str m.s, .row (sub 66 0) z1 0, .row (sub 66 1) z2 0]]⟩) (h1 : Ao H (sub 66 0) = some ⟨z1, false, 55, 1, []⟩) (h2 : Ao H (sub 66 1) = some ⟨z2, false, 86, 1, []⟩) : ∃ vs : Nat → Nat, vs 66 = v ∧ AR H (oh 66 vs (Tr.mk m [])) := by
 have n1 : sub 66 0 ≠ 66 := by have := Eu 66 0; omega
 have n2 : sub 66 1 ≠ 66 := by have := Eu 66 1; omega
 have n3 : sub 66 1 ≠ sub 66 0 := fun e => by have := (ER e).2; omega
 refine ⟨fun q => if q = 66 then v else if q = sub 66 0 then z1 else z2, by simp, ?_⟩
 rw [N5, hm, Cn, Cn]
 refine AF.2 ⟨AF.2 ⟨trivial, ?_, trivial⟩, AF.2 ⟨AF.2 ⟨trivial, ?_, trivial⟩, ?_, trivial⟩⟩
 ·rw [h1, Gg, if_neg n1, if_pos rfl]; rfl
 ·rw [h2, Gg, if_neg n2, if_neg n3]; rfl
 ·rw [h0, exB, if_pos rfl, if_neg n1, if_pos rfl, if_neg n2, if_neg n3, hm]; rfl
theorem Nq {fr : List (Nat × AV)} {v : Nat} {hp0 : Hp} {m : Node} (hm : m.Ae = []) (h : Bp fr 2 = .ptr 66 v 0 0) : Af ⟨fr, (66, ⟨v, false, 102, 6, [.agg [.int .i64 m.kind, .int .i64 m.pos, .int .i64 m.n, .str m.s, .An, .An]]⟩) :: hp0⟩ (Ow [Gc.t 2] (Xw (Tr.mk m []))) := by
 have g0 := Cm 66 0
 have g1 := Cm 66 1
 have n3 : sub 66 1 ≠ sub 66 0 := fun e => by have := (ER e).2; omega
 refine Af.FC 66 0 4 (sub 66 0) 55 1 BH rfl Nat.zero_lt_one rfl (by omega) fun z1 => ?_
 refine Af.FC 66 0 5 (sub 66 1) 86 1 (b := ⟨v, false, 102, 6, [.agg [.int .i64 m.kind, .int .i64 m.pos, .int .i64 m.n, .str m.s, .row (sub 66 0) z1 0, .An]]⟩) ((BL (by omega)).trans BH) rfl Nat.zero_lt_one rfl (by omega) fun z2 => ?_
 obtain ⟨H, hH⟩ : ∃ H : Hp, H = (sub 66 1, ⟨z2, false, 86, 1, []⟩) :: (66, ⟨v, false, 102, 6, [.agg [.int .i64 m.kind, .int .i64 m.pos, .int .i64 m.n, .str m.s, .row (sub 66 0) z1 0, .row (sub 66 1) z2 0]]⟩) :: (sub 66 0, ⟨z1, false, 55, 1, []⟩) :: (66, ⟨v, false, 102, 6, [.agg [.int .i64 m.kind, .int .i64 m.pos, .int .i64 m.n, .str m.s, .row (sub 66 0) z1 0, .An]]⟩) :: (66, ⟨v, false, 102, 6, [.agg [.int .i64 m.kind, .int .i64 m.pos, .int .i64 m.n, .str m.s, .An, .An]]⟩) :: hp0 := ⟨_, rfl⟩
 have h66 : Ao H 66 = some ⟨v, false, 102, 6, [.agg [.int .i64 m.kind, .int .i64 m.pos, .int .i64 m.n, .str m.s, .row (sub 66 0) z1 0, .row (sub 66 1) z2 0]]⟩ := by rw [hH]; exact (BL (by omega)).trans BH
 obtain ⟨vs, hv, hle⟩ := AeT (H := H) hm h66 (by rw [hH]; exact (BL n3).trans ((BL (by omega)).trans BH)) (by rw [hH]; exact BH)
 have key : Af ⟨fr, H⟩ (Ow [Gc.t 2] (Xw (Tr.mk m []))) := by
  refine Af.post (oh 66 vs (Tr.mk m [])) ?_
  simp +contextual -dsimp (maxSteps := 2000000) only [↓SD, SU, simprocAttr, h, h66, false_and]
  exact ⟨hle, 66, vs, by rw [AD, hv], rfl⟩
 rw [hH] at key
 exact key
theorem XB (n : Node) (ks : List Tr) : Ah Tryz.prog 117 [av (Tr.mk n ks)] (.int .i64 (if n.kind = 4 ∧ n.s = GL 1 then 1 else if n.kind = 4 ∧ n.s = GL 0 then 0 else -1)) := by
 refine El.F rfl (by simp; exact AVal.clean _) (BB _) ?_
 have t1 : GL 1 = bs [116, 114, 117, 101] := rfl
 have t0 : GL 0 = bs [102, 97, 108, 115, 101] := rfl
 rw [t1, t0]
 by_cases h4 : n.kind = 4
 ·by_cases s1 : n.s = bs [116, 114, 117, 101]
  ·have e := eq_true s1
   rw [if_pos ⟨h4, s1⟩]
   simp +contextual -dsimp (maxSteps := 2000000) only [↓SD, SU, simprocAttr, El, FL, h4, e]
  ·have e := eq_false s1
   rw [if_neg (fun h => s1 h.2)]
   by_cases s0 : n.s = bs [102, 97, 108, 115, 101]
   ·have e0 := eq_true s0
    rw [if_pos ⟨h4, s0⟩]
    simp +contextual -dsimp (maxSteps := 2000000) only [↓SD, SU, simprocAttr, El, FL, h4, e, e0]
   ·have e0 := eq_false s0
    rw [if_neg (fun h => s0 h.2)]
    simp +contextual -dsimp (maxSteps := 2000000) only [↓SD, SU, simprocAttr, El, FL, h4, e, e0]
 ·have e4 := eq_false h4
  rw [if_neg (fun h => h4 h.1), if_neg (fun h => h4 h.1)]
  simp +contextual -dsimp (maxSteps := 2000000) only [↓SD, SU, simprocAttr, El, FL, e4]
def OK (n : Node) (ks : List Tr) : Tr := match Mi n (kid ks 0).hd (kid ks 1).hd with
 | some m => .mk m []
 | none => .mk n ks
set_option maxHeartbeats 4000000 in
theorem Wk (n : Node) (ks : List Tr) (hT : TK 2100000 (.mk n ks)) (h10 : n.kind = 10) (nm : Nat) (hnm : 10000 ≤ nm) (vs : Nat → Nat) : Bu Tryz.prog 116 [ov nm vs (Tr.mk n ks)] (oh nm vs (Tr.mk n ks)) (Xw (OK n ks)) := by
 obtain ⟨hrk, hf⟩ := hT
 rw [Tr.each] at hf
 obtain ⟨⟨⟨hp, _, _, _⟩, _, _⟩, hfs⟩ := hf
 obtain ⟨hl, hop⟩ := hp h10
 match ks, hl with
 | [.mk m ls, .mk m' ls'], _ =>
 have ha : (Tr.mk m ls).each (FQ 2100000) := Dh.1 hfs _ (by simp)
 have hb : (Tr.mk m' ls').each (FQ 2100000) := Dh.1 hfs _ (by simp)
 rw [Tr.each] at ha hb
 have ra := ha.1.1.2.2.2
 have rb := hb.1.1.2.2.2
 have sa : m.s.size ≤ 2100000 := by have h1 := ha.1.2.1; unfold Ew at h1; omega
 have sb : m'.s.size ≤ 2100000 := by have h1 := hb.1.2.1; unfold Ew at h1; omega
 obtain ⟨K, hK⟩ : ∃ K, K = sub nm 0 := ⟨_, rfl⟩
 obtain ⟨H0, hH0⟩ : ∃ H0, H0 = oh nm vs (Tr.mk n [.mk m ls, .mk m' ls']) := ⟨_, rfl⟩
 have hs0 : AR H0 (oh nm vs (Tr.mk n [.mk m ls, .mk m' ls'])) := by rw [hH0]; exact OVal.self _ _ _
 obtain ⟨q1, q2, q3, q4⟩ := DW hs0
 rw [← hK] at q1 q2 q3
 have p0 := q3 0 (by simp)
 have p1 := q3 1 (by simp)
 obtain ⟨b0, -, -, -⟩ := DW p0
 obtain ⟨b1, -, -, -⟩ := DW p1
 have e0 : ovL K vs 0 [Tr.mk m ls, Tr.mk m' ls'] = [.ptr (sub K 0) (vs (sub K 0)) 0 0, .ptr (sub K 1) (vs (sub K 1)) 0 0] := by rw [X3, trP, trP, trP]
 rw [e0] at q2
 rw [← hH0]
 have gn : ∀ q, q < 10000 → (q == nm) = false ∧ (q = nm) = False ∧ (nm = q) = False := fun q hq => ⟨beq_eq_false_iff_ne.2 (by omega), eq_false (by omega), eq_false (by omega)⟩
 have back : ∀ fr, Bp fr 2 = ov nm vs (Tr.mk n [.mk m ls, .mk m' ls']) → Af ⟨fr, H0⟩ (Ow [Gc.t 2] (Xw (.mk n [.mk m ls, .mk m' ls']))) := fun fr h => by
  rw [AD] at h
  refine Af.post (oh nm vs (Tr.mk n [.mk m ls, .mk m' ls'])) ?_
  simp +contextual -dsimp (maxSteps := 2000000) only [↓SD, SU, simprocAttr, h, q1, false_and]
  exact ⟨hs0, nm, vs, by rw [AD], rfl⟩
 have k0 : (kid [Tr.mk m ls, Tr.mk m' ls'] 0).hd = m := rfl
 have k1 : (kid [Tr.mk m ls, Tr.mk m' ls'] 1).hd = m' := rfl
 unfold OK
 rw [k0, k1]
 unfold Mi
 refine Bs.H rfl ?_
 by_cases h94 : n.s = bs [94]
 ·have E := eq_true h94
  rw [if_pos h94]
  by_cases hk : m.kind = 2 ∧ m'.kind = 2
  ·have r1 : -9223372036854775808 ≤ (m.s.size : Int) + m'.s.size := by omega
   have r2 : (m.s.size : Int) + m'.s.size ≤ 9223372036854775807 := by omega
   by_cases hz : m.s.size + m'.s.size ≤ 1000
   ·have hz1 : (m.s.size : Int) + m'.s.size ≤ 1000 := by omega
    rw [if_pos ⟨hk.1, hk.2, hz⟩]
    simp +contextual -dsimp (maxSteps := 2000000) only [↓SD, SU, simprocAttr, Bs, AD, q1, q2, b0, b1, exB, E, hk.1, hk.2, r1, r2, hz1, false_and]
    exact ⟨by unfold maxLen; omega, fun v => Nq (m := ⟨2, n.pos, 0, m.s ++ m'.s, [], []⟩) rfl rfl⟩
   ·have hz1 : ¬ (m.s.size : Int) + m'.s.size ≤ 1000 := by omega
    rw [if_neg (fun h => hz h.2.2)]
    simp +contextual -dsimp (maxSteps := 2000000) only [↓SD, SU, simprocAttr, Bs, AD, q1, q2, b0, b1, exB, E, hk.1, hk.2, r1, r2, hz1, false_and]
    exact back _ rfl
  ·rw [if_neg (fun h => hk ⟨h.1, h.2.1⟩)]
   by_cases h2 : m.kind = 2
   ·have E3 := eq_false (fun h => hk ⟨h2, h⟩ : ¬ m'.kind = 2)
    simp +contextual -dsimp (maxSteps := 2000000) only [↓SD, SU, simprocAttr, Bs, AD, q1, q2, b0, b1, exB, E, h2, E3, false_and]
    exact back _ rfl
   ·have E2 := eq_false h2
    simp +contextual -dsimp (maxSteps := 2000000) only [↓SD, SU, simprocAttr, Bs, AD, q1, q2, b0, b1, exB, E, E2, false_and]
    exact back _ rfl
 ·have E := eq_false h94
  rw [if_neg h94]
  by_cases hk : m.kind = 1 ∧ m'.kind = 1
  ·have C := AeF n.s m.n m'.n (by have := ra hk.1; unfold I64; omega) (by have := rb hk.2; unfold I64; omega)
   rw [if_pos hk]
   generalize FF n.s m.n m'.n = V at *
   obtain ⟨x, tb, ok⟩ := V
   simp +contextual -dsimp (maxSteps := 2000000) only [↓SD, SU, simprocAttr, Bs, AD, q1, q2, b0, b1, exB, E, hk.1, hk.2, false_and]
   refine Aa _ C ?_
   cases tb with
   | true =>
    simp +contextual -dsimp (maxSteps := 2000000) only [↓SD, SU, simprocAttr, Bs, AD, q1, q2, b0, b1, exB, E, false_and]
    refine Aa _ (Td x) ?_
    simp +contextual -dsimp (maxSteps := 2000000) only [↓SD, SU, simprocAttr, false_and]
    exact fun v => Nq (m := ⟨4, n.pos, 0, GL x, [], []⟩) rfl rfl
   | false =>
    cases ok with
    | true =>
     by_cases hx : 0 ≤ x
     ·simp +contextual -dsimp (maxSteps := 2000000) only [↓SD, SU, simprocAttr, Bs, AD, q1, q2, b0, b1, exB, E, hx, false_and]
      exact fun v => Nq (m := ⟨1, n.pos, x, bs [], [], []⟩) rfl rfl
     ·simp +contextual -dsimp (maxSteps := 2000000) only [↓SD, SU, simprocAttr, Bs, AD, q1, q2, b0, b1, exB, E, hx, false_and]
      exact back _ rfl
    | false =>
     simp +contextual -dsimp (maxSteps := 2000000) only [↓SD, SU, simprocAttr, Bs, AD, q1, q2, b0, b1, exB, E, false_and]
     exact back _ rfl
  ·rw [if_neg hk]
   by_cases h2 : m.kind = 1
   ·have E3 := eq_false (fun h => hk ⟨h2, h⟩ : ¬ m'.kind = 1)
    simp +contextual -dsimp (maxSteps := 2000000) only [↓SD, SU, simprocAttr, Bs, AD, q1, q2, b0, b1, exB, E, h2, E3, false_and]
    exact back _ rfl
   ·have E2 := eq_false h2
    simp +contextual -dsimp (maxSteps := 2000000) only [↓SD, SU, simprocAttr, Bs, AD, q1, q2, b0, b1, exB, E, E2, false_and]
    exact back _ rfl
set_option maxHeartbeats 4000000 in
theorem AbS : ∀ t : Tr, TK 2100000 t → t.size ≤ 600 → ∀ nm, 10000 ≤ nm → ∀ vs, Bu Tryz.prog 56 [ov nm vs t] (oh nm vs t) (DC nm (Az t)) := by
 rintro ⟨n, ks⟩ hT hsz nm hnm vs
 have hfq := hT.2
 rw [Tr.each] at hfq
 obtain ⟨⟨⟨p10, p9, p19, _⟩, _, _⟩, hfs⟩ := hfq
 have hrk2 := hT.1
 rw [Tr.rk] at hrk2
 rw [Tr.size] at hsz
 obtain ⟨K, hK⟩ : ∃ K, K = sub nm 0 := ⟨_, rfl⟩
 have hKm : K ≠ nm := by rw [hK]; exact fun e => (InT.root (nm := sub nm 0)).ne e
 obtain ⟨H0, hH0⟩ : ∃ H0, H0 = oh nm vs (Tr.mk n ks) := ⟨_, rfl⟩
 have hs0 : AR H0 (oh nm vs (Tr.mk n ks)) := by rw [hH0]; exact OVal.self _ _ _
 obtain ⟨q1, q2, q3, q4⟩ := DW hs0
 rw [← hK] at q1 q2 q3
 have hel : (ovL K vs 0 ks).length = ks.length := Dp _ _ _ _
 have eK : ∀ i (h : i < ks.length), (ovL K vs 0 ks).getD i .top = .ptr (sub K i) (vs (sub K i)) 0 0 := fun i h => by
  have := Ji K vs ks h .top
  rw [AD] at this
  exact this
 rw [← hH0]
 refine Dt (Post := Xw (Az (.mk n ks))) (A4.H rfl ?_) (fun r hp' h => AbT nm h)
 have back : ∀ fr, Bp fr 2 = .ptr nm (vs nm) 0 0 → Az (.mk n ks) = .mk n ks → Af ⟨fr, H0⟩ (Ow [Gc.t 2] (Xw (Az (.mk n ks)))) := fun fr h e => by
  rw [e]
  refine Af.post (oh nm vs (Tr.mk n ks)) ?_
  simp +contextual -dsimp (maxSteps := 2000000) only [↓SD, SU, simprocAttr, h, q1, false_and]
  exact ⟨hs0, nm, vs, by rw [AD], rfl⟩
 have give : ∀ fr i (h : i < ks.length), Bp fr 2 = .ptr (sub K i) (vs (sub K i)) 0 0 → Az (.mk n ks) = ks[i] → Af ⟨fr, H0⟩ (Ow [Gc.t 2] (Xw (Az (.mk n ks)))) := fun fr i h hf e => by
  rw [e]
  have p1 := q3 i h
  obtain ⟨es1, b1⟩ := Cf p1
  refine Af.post (oh (sub K i) vs ks[i]) ?_
  simp +contextual -dsimp (maxSteps := 2000000) only [↓SD, SU, simprocAttr, hf, b1, false_and]
  exact ⟨p1, sub K i, vs, by rw [AD], rfl⟩
 by_cases h10 : n.kind = 10
 ·have E10 := eq_true h10
  have CP := Wk n ks hT h10 nm hnm vs
  have hR : Az (.mk n ks) = OK n ks := by rw [Az, if_pos h10]; rfl
  rw [hR]
  rw [AD, ← hH0] at CP
  simp +contextual -dsimp (maxSteps := 2000000) only [↓SD, SU, simprocAttr, A4, AD, q1, exB, E10, false_and]
  refine Bt (on nm (Tr.mk n ks)) CP ((GF hs0).trans hH0.symm) ?_
  rintro r hp' ⟨q, v1, rfl, rfl⟩ H hH
  generalize OK n ks = T at *
  have ho : AR H (oh q v1 T) := by rw [hH]; exact Cj (OVal.self _ _ _)
  obtain ⟨es1, c0⟩ := Cf ho
  simp +contextual -dsimp (maxSteps := 2000000) only [↓SD, SU, simprocAttr, AD, c0]
  refine Af.post (oh q v1 T) ?_
  simp +contextual -dsimp (maxSteps := 2000000) only [↓SD, SU, simprocAttr, AD, c0, false_and]
  exact ⟨ho, q, v1, by rw [AD], rfl⟩
 have E10 := eq_false h10
 by_cases h9 : n.kind = 9
 ·have E9 := eq_true h9
  have hl3 := p9 h9
  have hl0 : 0 < ks.length := by omega
  have hl1 : 1 < ks.length := by omega
  have hl2 : 2 < ks.length := by omega
  have hi0 : (0 : Int) < (ks.length : Int) := by omega
  have hi1 : (1 : Int) < (ks.length : Int) := by omega
  have hi2 : (2 : Int) < (ks.length : Int) := by omega
  have f0 := eK 0 hl0
  have f1 := eK 1 hl1
  have f2 := eK 2 hl2
  obtain ⟨m, js, hmj⟩ : ∃ m js, ks[0] = .mk m js := by
   cases h : ks[0] with
   | mk m js => exact ⟨m, js, rfl⟩
  have C := XB m js
  rw [← hmj] at C
  have p0 := q3 0 hl0
  have hlend := HH (AD (sub K 0) vs ks[0]).symm p0
  obtain ⟨es0, b0⟩ := Cf p0
  have hk0 : (kid ks 0).hd = m := by rw [Hi hl0, hmj]; rfl
  have hk1 : kid ks 1 = ks[1] := Hi hl1
  have hk2 : kid ks 2 = ks[2] := Hi hl2
  have hR : Az (.mk n ks) = if m.kind = 4 ∧ m.s = GL 1 then ks[1] else if m.kind = 4 ∧ m.s = GL 0 then ks[2] else .mk n ks := by rw [Az, if_neg h10, if_pos h9, hk0, hk1, hk2]
  obtain ⟨E, hE⟩ : ∃ E, E = ovL K vs 0 ks := ⟨_, rfl⟩
  rw [← hE] at q2 hel f0 f1 f2
  simp +contextual -dsimp (maxSteps := 2000000) only [↓SD, SU, simprocAttr, A4, AD, q1, exB, q2, hel, f0, hl0, hi0, E10, E9, b0, false_and]
  refine Dz (on (sub K 0) ks[0]) C rfl (A3 hlend rfl) ?_
  by_cases t1 : m.kind = 4 ∧ m.s = GL 1
  ·rw [if_pos t1] at hR
   rw [if_pos t1]
   simp +contextual -dsimp (maxSteps := 2000000) only [↓SD, SU, simprocAttr, A4, AD, q1, exB, q2, hel, f1, hl1, hi1, false_and]
   exact give _ 1 hl1 rfl hR
  ·rw [if_neg t1] at hR
   rw [if_neg t1]
   by_cases t0 : m.kind = 4 ∧ m.s = GL 0
   ·rw [if_pos t0] at hR
    rw [if_pos t0]
    simp +contextual -dsimp (maxSteps := 2000000) only [↓SD, SU, simprocAttr, A4, AD, q1, exB, q2, hel, f2, hl2, hi2, false_and]
    exact give _ 2 hl2 rfl hR
   ·rw [if_neg t0] at hR
    rw [if_neg t0]
    simp +contextual -dsimp (maxSteps := 2000000) only [↓SD, SU, simprocAttr, A4, AD, q1, exB, false_and]
    exact back _ rfl hR
 have E9 := eq_false h9
 by_cases h19 : n.kind = 19
 ·have E19 := eq_true h19
  have hl3 := p19 h19
  have hl0 : 0 < ks.length := by omega
  have hl1 : 1 < ks.length := by omega
  have hi0 : (0 : Int) < (ks.length : Int) := by omega
  have hi1 : (1 : Int) < (ks.length : Int) := by omega
  have f0 := eK 0 hl0
  have f1 := eK 1 hl1
  obtain ⟨m, js, hmj⟩ : ∃ m js, ks[0] = .mk m js := by
   cases h : ks[0] with
   | mk m js => exact ⟨m, js, rfl⟩
  have p0 := q3 0 hl0
  rw [hmj] at p0
  obtain ⟨b0, -, -, -⟩ := DW p0
  have hk0 : (kid ks 0).hd = m := by rw [Hi hl0, hmj]; rfl
  have hk1 : kid ks 1 = ks[1] := Hi hl1
  have hR : Az (.mk n ks) = if m.kind = 12 then ks[1] else .mk n ks := by rw [Az, if_neg h10, if_neg h9, if_pos h19, hk0, hk1]
  obtain ⟨E, hE⟩ : ∃ E, E = ovL K vs 0 ks := ⟨_, rfl⟩
  rw [← hE] at q2 hel f0 f1
  by_cases m12 : m.kind = 12
  ·have M := eq_true m12
   rw [if_pos m12] at hR
   simp +contextual -dsimp (maxSteps := 2000000) only [↓SD, SU, simprocAttr, A4, AD, q1, exB, q2, hel, f0, f1, hl0, hi0, hl1, hi1, E10, E9, E19, b0, M, false_and]
   exact give _ 1 hl1 rfl hR
  ·have M := eq_false m12
   rw [if_neg m12] at hR
   simp +contextual -dsimp (maxSteps := 2000000) only [↓SD, SU, simprocAttr, A4, AD, q1, exB, q2, hel, f0, f1, hl0, hi0, hl1, hi1, E10, E9, E19, b0, M, false_and]
   exact back _ rfl hR
 have E19 := eq_false h19
 by_cases h7 : n.kind = 7
 ·have E7 := eq_true h7
  have hl3 := hrk2.1.2.1 h7
  have hl0 : 0 < ks.length := by omega
  have hl1 : 1 < ks.length := by omega
  have hi0 : (0 : Int) < (ks.length : Int) := by omega
  have hi1 : (1 : Int) < (ks.length : Int) := by omega
  have f0 := eK 0 hl0
  have f1 := eK 1 hl1
  obtain ⟨m, js, hmj⟩ : ∃ m js, ks[0] = .mk m js := by
   cases h : ks[0] with
   | mk m js => exact ⟨m, js, rfl⟩
  have s0 := Cq (List.getElem_mem hl0)
  have s1 := Cq (List.getElem_mem hl1)
  have p0 := q3 0 hl0
  have p1 := q3 1 hl1
  have hlend := HH (AD (sub K 0) vs ks[0]).symm p0
  have hlend1 := HH (AD (sub K 1) vs ks[1]).symm p1
  obtain ⟨es1, b1⟩ := Cf p1
  have p0' := p0
  rw [hmj] at p0'
  obtain ⟨b0, -, -, -⟩ := DW p0'
  have hk0 : kid ks 0 = .mk m js := by rw [Hi hl0, hmj]
  have hk1 : kid ks 1 = ks[1] := Hi hl1
  have hR : Az (.mk n ks) = if (Es ks[0] = true ∨ m.kind = 5) ∧ D7 n.s ks[1] = 0 then ks[1] else .mk n ks := by rw [Az, if_neg h10, if_neg h9, if_neg h19, if_pos h7, hk0, hk1, hmj]; rfl
  have C := Kl ks[0] (by omega)
  have r1 := Ch.1 hrk2.2 _ (List.getElem_mem hl1)
  have hss : n.s.size ≤ 4294967296 := by have h1 := hrk2.1.2.2.2.2.2.1; unfold Ew at h1; omega
  have CC := AdO n.s hss ks[1] (Zk _ r1) (by omega)
  have hcl : ((D7 n.s ks[1] : Nat) : Int) = 0 ↔ D7 n.s ks[1] = 0 := by omega
  obtain ⟨E, hE⟩ : ∃ E, E = ovL K vs 0 ks := ⟨_, rfl⟩
  rw [← hE] at q2 hel f0 f1
  simp +contextual -dsimp (maxSteps := 2000000) only [↓SD, SU, simprocAttr, A4, AD, q1, exB, q2, hel, f0, f1, hl0, hi0, hl1, hi1, E10, E9, E19, E7, b0, false_and]
  refine Dz (on (sub K 0) ks[0]) C rfl (A3 hlend rfl) ?_
  by_cases hp : Es ks[0] = true ∨ m.kind = 5
  ·have hpp := hp
   cases hpt : Es ks[0] with
   | true =>
    simp +contextual -dsimp (maxSteps := 2000000) only [↓SD, SU, simprocAttr, A4, AD, q1, exB, q2, hel, f0, f1, hl0, hi0, hl1, hi1, b0, b1, false_and]
    refine Dz (on (sub K 1) ks[1]) CC rfl (A3 hlend1 (A3 rfl rfl)) ?_
    by_cases hc : D7 n.s ks[1] = 0
    ·have hc1 := eq_true (by omega : ((D7 n.s ks[1] : Nat) : Int) = 0)
     rw [if_pos ⟨hp, hc⟩] at hR
     simp +contextual -dsimp (maxSteps := 2000000) only [↓SD, SU, simprocAttr, A4, AD, q1, exB, q2, hel, f1, hl1, hi1, hc1, false_and]
     exact give _ 1 hl1 rfl hR
    ·have hc1 := eq_false (by omega : ¬ ((D7 n.s ks[1] : Nat) : Int) = 0)
     rw [if_neg (fun h => hc h.2)] at hR
     simp +contextual -dsimp (maxSteps := 2000000) only [↓SD, SU, simprocAttr, A4, AD, q1, exB, q2, hel, f1, hl1, hi1, hc1, false_and]
     exact back _ rfl hR
   | false =>
    have m5 : m.kind = 5 := hp.resolve_left (by rw [hpt]; simp)
    simp +contextual -dsimp (maxSteps := 2000000) only [↓SD, SU, simprocAttr, A4, AD, q1, exB, q2, hel, f0, f1, hl0, hi0, hl1, hi1, b0, b1, m5, false_and]
    refine Dz (on (sub K 1) ks[1]) CC rfl (A3 hlend1 (A3 rfl rfl)) ?_
    by_cases hc : D7 n.s ks[1] = 0
    ·have hc1 := eq_true (by omega : ((D7 n.s ks[1] : Nat) : Int) = 0)
     rw [if_pos ⟨hp, hc⟩] at hR
     simp +contextual -dsimp (maxSteps := 2000000) only [↓SD, SU, simprocAttr, A4, AD, q1, exB, q2, hel, f1, hl1, hi1, hc1, false_and]
     exact give _ 1 hl1 rfl hR
    ·have hc1 := eq_false (by omega : ¬ ((D7 n.s ks[1] : Nat) : Int) = 0)
     rw [if_neg (fun h => hc h.2)] at hR
     simp +contextual -dsimp (maxSteps := 2000000) only [↓SD, SU, simprocAttr, A4, AD, q1, exB, q2, hel, f1, hl1, hi1, hc1, false_and]
     exact back _ rfl hR
  ·rw [if_neg (fun h => hp h.1)] at hR
   have hpt : Es ks[0] = false := by
    cases h : Es ks[0] with
    | true => exact absurd (.inl h) hp
    | false => rfl
   have m5 := eq_false (fun h => hp (.inr h) : ¬ m.kind = 5)
   rw [hpt]
   simp +contextual -dsimp (maxSteps := 2000000) only [↓SD, SU, simprocAttr, A4, AD, q1, exB, q2, hel, f0, f1, hl0, hi0, hl1, hi1, b0, b1, m5, false_and]
   exact back _ rfl hR
 have E7 := eq_false h7
 have hR : Az (.mk n ks) = .mk n ks := by rw [Az, if_neg h10, if_neg h9, if_neg h19, if_neg h7]
 simp +contextual -dsimp (maxSteps := 2000000) only [↓SD, SU, simprocAttr, A4, AD, q1, exB, E10, E9, E19, E7, false_and]
 exact back _ rfl hR
end Go.Proofs.YtppjinmlfcokaaaGreat
