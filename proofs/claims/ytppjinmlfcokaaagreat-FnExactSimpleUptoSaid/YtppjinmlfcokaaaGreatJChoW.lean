/-
 THE RULE OF Chosen, on a tree in rows of its own, by the program's abstract text. Conditions: none.
-/
import Derived.Test.YtppjinmlfcokaaaGreatJJ33
import Derived.Test.YtppjinmlfcokaaaGreatJJ30
set_option linter.unusedVariables false
set_option linter.unusedSimpArgs false
set_option maxRecDepth 100000
namespace Go.Proofs.YtppjinmlfcokaaaGreat
open Go.RowKit Go.Proofs.YtppjinmlfcokaaaGreat.Av Go.Proofs.YtppjinmlfcokaaaGreat.Ml
open Go.Proofs.YtppjinmlfcokaaaGreat.Av.AVal (av)
open OVal (ov oh on)

def Ot (x : Bu) (a : Node) : Bool :=
 if x.kind = 1 ∨ x.kind = 2 then true
 else if x.kind = 3 then decide (a.kind = 1) && decide (a.n = x.n)
 else if x.kind = 6 then decide (a.kind = 12)
 else if x.kind = 4 then decide (a.kind = 4) && decide (a.s = x.s) && decide (x.kids.length = 0)
 else false
theorem Aeg (q : Pat) (a : Node) : Km q a = Ot (q.nodes.getD 0 default) a := rfl
theorem K6 {a : Node} : ∀ {l : List Pat} {j : Nat} (h : j < l.length), (∀ k (hk : k < j), Km (l[k]'(by omega)) a = false) → Km l[j] a = true → HQ a l = some j
 | q :: l, 0, h, h1, h2 => by rw [HQ, if_pos (show Km q a = true from h2)]
 | q :: l, j + 1, h, h1, h2 => by
  have h0 := h1 0 (by omega)
  rw [List.getElem_cons_zero] at h0
  rw [HQ, if_neg (by rw [h0]; simp), K6 (l := l) (j := j) (by simpa using h) (fun k hk => by have := h1 (k + 1) (by omega); simpa using this) (by simpa using h2)]
  rfl
theorem K7 {a : Node} : ∀ {l : List Pat}, (∀ k (hk : k < l.length), Km l[k] a = false) → HQ a l = none
 | [], h => rfl
 | q :: l, h => by
  have h0 := h 0 (by simp)
  rw [List.getElem_cons_zero] at h0
  rw [HQ, if_neg (by rw [h0]; simp), K7 (l := l) (fun k hk => by have := h (k + 1) (by simpa using hk); simpa using this)]
  rfl
theorem Ab3 (x : Bu) (n : Node) (ks : List Tr) (hl : x.kids.length ≤ 4294967296) : Ak Tryz.prog 120 [av x, av (Tr.mk n ks)] (.bool (Ot x n)) := by
 refine LK.F rfl (by simp; exact ⟨AVal.clean _, AVal.clean _⟩) (Ae.bool _) ?_
 simp +contextual -dsimp (maxSteps := 2000000) only [↓SD, SU, simprocAttr, LK, FK, A3, Aa]
 (repeat' (first | intro _ | refine And.intro ?_ ?_))
 all_goals first | omega | (simp [Ot, *]; done) | (simp [Ot, *]; omega) | trace_state
theorem Aac {α : Type} [AVal α] [OVal α] {K : Nat} {vs : Nat → Nat} {l : List α} {H : Hp} (h : Ax H (oh K vs l)) (k : Nat) (hk : k < l.length) : Ax H (oh (sub K k) vs l[k]) := by
 rw [B8, Ap] at h
 exact Az.2 fun p hp => Az.1 h.1 p (MQ k hk (by rw [Nat.zero_add]; exact hp))
theorem Aec {β : Type} [AVal β] [OVal β] {a : Nat} {vs : Nat → Nat} {z : β} {H : Hp} {b1 b2 b3 b4 : Box} (ha : 10000 ≤ a) (h : Ax H (oh a vs z)) : Ax ((5, b1) :: (5, b2) :: (4, b3) :: (4, b4) :: H) (oh a vs z) :=
 Al (fun h => by have := h.le; omega) (Al (fun h => by have := h.le; omega) (Al (fun h => by have := h.le; omega) (Al (fun h => by have := h.le; omega) h)))
set_option maxHeartbeats 4000000 in
theorem AbD : ∀ t : Tr, t.rk → t.size ≤ 600 → ∀ nm, 10000 ≤ nm → ∀ vs, AU Tryz.prog 57 [ov nm vs t] (oh nm vs t) (BW nm (AR t)) := by
 rintro ⟨n, ks⟩ hrk hsz nm hnm vs
 rw [Tr.rk] at hrk
 rw [Tr.size] at hsz
 have hkl := CD ks
 obtain ⟨K, hK⟩ : ∃ K, K = sub nm 0 := ⟨_, rfl⟩
 obtain ⟨P, hP⟩ : ∃ P, P = sub nm 1 := ⟨_, rfl⟩
 have hKm : K ≠ nm := by rw [hK]; exact fun e => (InT.root (nm := sub nm 0)).ne e
 obtain ⟨H0, hH0⟩ : ∃ H0, H0 = oh nm vs (Tr.mk n ks) := ⟨_, rfl⟩
 have hs0 : Ax H0 (oh nm vs (Tr.mk n ks)) := by rw [hH0]; exact OVal.self _ _ _
 obtain ⟨q1, q2, q3, q4⟩ := DN hs0
 rw [← hK, ← hP] at q1
 rw [← hK] at q2 q3
 rw [← hP] at q4
 rw [← hH0]
 refine C9 (Post := AaC (AR (.mk n ks))) (DS.H rfl ?_) (fun r hp' h => T1 nm h)
 by_cases h13 : n.kind = 13
 case neg =>
  have E13 := eq_false h13
  have e : AR (.mk n ks) = .mk n ks := by rw [AR, if_neg (fun h => h13 h.1)]
  rw [e]
  simp +contextual -dsimp (maxSteps := 2000000) only [↓SD, SU, simprocAttr, DS, AD, q1, q2, exB, E13]
  refine Af.post (oh nm vs (Tr.mk n ks)) ?_
  simp +contextual -dsimp (maxSteps := 2000000) only [↓SD, SU, simprocAttr, AD, q1, false_and]
  exact ⟨hs0, .inl ⟨nm, vs, by rw [AD], rfl⟩⟩
 have E13 := eq_true h13
 have hl := hrk.1.2.2.1 h13
 have hl0 : 0 < ks.length := by omega
 have hl1 : (0 : Int) < (ks.length : Int) := by omega
 have r0 := Cl.1 hrk.2 _ (List.getElem_mem hl0)
 have s0 := Cr (List.getElem_mem hl0)
 have p0 : Ax H0 (oh (sub K 0) vs ks[0]) := q3 0 hl0
 have e0 := Ep K vs ks hl0 .top
 rw [AD] at e0
 have hel : (ovL K vs 0 ks).length = ks.length := B2 _ _ _ _
 have hgk : ∀ i (h : i < ks.length), ks.getD i (.mk default []) = ks[i] := fun i h => by simp [List.getD_eq_getElem?_getD, h]
 have C := KF ks[0] (by omega)
 have hlend := EZ (AD (sub K 0) vs ks[0]).symm p0
 rw [AR, hgk 0 hl0]
 cases hp : Ew ks[0] with
 | false =>
  rw [hp] at C
  rw [if_neg (fun h => by cases h.2.1)]
  obtain ⟨es0, b0⟩ := Ca p0
  obtain ⟨E, hE⟩ : ∃ E, E = ovL K vs 0 ks := ⟨_, rfl⟩
  rw [← hE] at q2 e0 hel
  simp +contextual -dsimp (maxSteps := 2000000) only [↓SD, SU, simprocAttr, DS, AD, q1, q2, exB, E13, b0, e0, hel, hl0, hl1, false_and]
  refine Cd (on (sub K 0) ks[0]) C rfl (Aw hlend rfl) ?_
  simp +contextual -dsimp (maxSteps := 2000000) only [↓SD, SU, simprocAttr, q1]
  refine Af.post (oh nm vs (Tr.mk n ks)) ?_
  simp +contextual -dsimp (maxSteps := 2000000) only [↓SD, SU, simprocAttr, AD, q1, false_and]
  exact ⟨hs0, .inl ⟨nm, vs, by rw [AD], rfl⟩⟩
 | true =>
  rw [hp] at C
  obtain ⟨m0, m1, m2⟩ := IU r0 hp
  have p0' := p0
  rw [m0] at p0'
  obtain ⟨b0, -, -, -⟩ := DN p0'
  obtain ⟨m, hm⟩ : ∃ m, m = ks[0].hd := ⟨_, rfl⟩
  rw [← hm] at m0 m1 m2 b0 ⊢
  by_cases h2 : m.kind = 2
  ·have E2 := eq_true h2
   rw [if_neg (fun h => h.2.2 h2)]
   obtain ⟨E, hE⟩ : ∃ E, E = ovL K vs 0 ks := ⟨_, rfl⟩
   rw [← hE] at q2 e0 hel
   simp +contextual -dsimp (maxSteps := 2000000) only [↓SD, SU, simprocAttr, DS, AD, q1, q2, exB, E13, b0, e0, hel, hl0, hl1, false_and]
   refine Cd (on (sub K 0) ks[0]) C rfl (Aw hlend rfl) ?_
   simp +contextual -dsimp (maxSteps := 2000000) only [↓SD, SU, simprocAttr, q1, q2, exB, e0, hel, hl0, hl1, b0, E2, false_and]
   refine Af.post (oh nm vs (Tr.mk n ks)) ?_
   simp +contextual -dsimp (maxSteps := 2000000) only [↓SD, SU, simprocAttr, AD, q1, false_and]
   exact ⟨hs0, .inl ⟨nm, vs, by rw [AD], rfl⟩⟩
  have E2 := eq_false h2
  rw [if_pos ⟨h13, rfl, h2⟩]
  obtain ⟨E, hE⟩ : ∃ E, E = ovL K vs 0 ks := ⟨_, rfl⟩
  rw [← hE] at q2 e0 hel
  simp +contextual -dsimp (maxSteps := 2000000) only [↓SD, SU, simprocAttr, DS, AD, q1, q2, exB, E13, b0, e0, hel, hl0, hl1, false_and]
  refine Cd (on (sub K 0) ks[0]) C rfl (Aw hlend rfl) ?_
  simp +contextual -dsimp (maxSteps := 2000000) only [↓SD, SU, simprocAttr, q1, q2, exB, e0, hel, hl0, hl1, b0, E2, false_and]
  refine Am (X := Nat) (fun j => ⟨[(0, .ptr nm (vs nm) 0 0), (37, .row P (vs P) n.Ai.length), (38, .int .i64 n.Ai.length), (39, .int .i64 j)], oh nm vs (Tr.mk n ks)⟩) (fun j => j ≤ n.Ai.length ∧ ∀ k (hk : k < n.Ai.length), k < j → Km n.Ai[k] m = false) (fun j => n.Ai.length - j) 0 ⟨Nat.zero_le _, fun k hk h => by omega⟩ (by simp +contextual -dsimp only [↓SD, SU, simprocAttr]) (by exact hs0) ?_
  rintro j ⟨hj, hjf⟩
  try dsimp only at hj hjf ⊢
  rw [← hH0]
  by_cases hlt : j < n.Ai.length
  ·have rP : An H0 P = some ⟨vs P, false, 86, 1, ovL P vs 0 n.Ai⟩ := Aq q4
   have eP := Ep P vs n.Ai hlt .top
   have elP : (ovL P vs 0 n.Ai).length = n.Ai.length := B2 _ _ _ _
   have pq := Aac q4 j hlt
   have hne := hrk.1.2.2.2.2.1 _ (List.getElem_mem hlt)
   have hxB := Aeg n.Ai[j] m
   have hbj := AG (List.getElem_mem hlt)
   obtain ⟨Q, hQ⟩ : ∃ Q, Q = sub P j := ⟨_, rfl⟩
   obtain ⟨⟨l⟩, hq⟩ : ∃ q, q = n.Ai[j] := ⟨_, rfl⟩
   rw [← hq] at eP pq hne hxB hbj
   rw [← hQ] at eP pq
   dsimp only at hne hxB
   rw [JG] at eP
   rw [NJ] at pq
   dsimp only at eP pq
   have hl2 : 0 < l.length := List.length_pos_iff.2 hne
   have hl3 : (0 : Int) < (l.length : Int) := by omega
   obtain ⟨M, hM⟩ : ∃ M, M = sub Q 0 := ⟨_, rfl⟩
   rw [← hM] at eP pq
   have rM : An H0 M = some ⟨vs M, false, 96, 4, ovL M vs 0 l⟩ := Aq pq
   have eM := Ep M vs l hl2 .top
   have elM : (ovL M vs 0 l).length = l.length := B2 _ _ _ _
   have px := Aac pq 0 hl2
   have hgx : l.getD 0 default = l[0] := by simp [List.getD_eq_getElem?_getD, hl2]
   rw [hgx] at hxB
   have hbx := AG (List.getElem_mem hl2)
   obtain ⟨xN, hxN⟩ : ∃ xN, xN = sub M 0 := ⟨_, rfl⟩
   rw [← hxN] at eM px
   generalize hx : l[0] = x at *
   rw [Hx] at eM
   have px2 := px
   rw [KB] at px2
   have rX : An H0 (sub xN 0) = some ⟨vs (sub xN 0), false, 3, 1, ovL (sub xN 0) vs 0 x.kids⟩ := Aq px2
   have gM : ∀ q, q < 10000 → (q == M) = false ∧ (q = M) = False ∧ (M = q) = False := fun q hq => by
    have : 10000 ≤ M := by rw [hM]; exact Ci _ _
    exact ⟨beq_eq_false_iff_ne.2 (by omega), eq_false (by omega), eq_false (by omega)⟩
   have gn : ∀ q, q < 10000 → (q == nm) = false ∧ (q = nm) = False ∧ (nm = q) = False := fun q hq => ⟨beq_eq_false_iff_ne.2 (by omega), eq_false (by omega), eq_false (by omega)⟩
   have gK : ∀ q, q < 10000 → (q == K) = false ∧ (q = K) = False ∧ (K = q) = False := fun q hq => by
    have : 10000 ≤ K := by rw [hK]; exact Ci _ _
    exact ⟨beq_eq_false_iff_ne.2 (by omega), eq_false (by omega), eq_false (by omega)⟩
   simp +contextual -dsimp (maxSteps := 2000000) only [↓SD, SU, simprocAttr, hlt, rP, eP, elP, rM, eM, elM, hl2, hl3, q1, q2, exB, e0, hel, hl0, hl1, b0, rX, gM, gn, gK, AQ, false_and]
   intro v4 v5
   have hxl : x.kids.length ≤ 4294967296 := by
    have b1 : Ac.bulk x = Ac.bulk x.kind + Ac.bulk x.n + Ac.bulk x.s + Ac.bulk x.kids + 1 := rfl
    have b2 := Ag x.kids
    have b3 : Ac.bulk (⟨l⟩ : Pat) = Ac.bulk l + 1 := rfl
    have b4 : Ac.bulk n = Ac.bulk n.kind + Ac.bulk n.pos + Ac.bulk n.n + Ac.bulk n.s + Ac.bulk n.kids + Ac.bulk n.Ai + 1 := rfl
    have b5 := hrk.1.2.2.2.2.2.2
    omega
   have C2 := Ab3 x m [] hxl
   rw [← m0] at C2
   have hdx : ∀ k, InT xN k → ¬ InT (sub K 0) k := fun k h1 h2 => by
    rw [hxN] at h1
    have h1 := h1.up
    rw [hM] at h1
    have h1 := h1.up
    rw [hQ] at h1
    have h1 := h1.up
    have h2 := h2.up
    rw [hP] at h1
    rw [hK] at h2
    exact BG (i := 1) (j := 0) (by omega) h1 h2
   have hgx2 : 10000 ≤ xN := by rw [hxN]; exact Ci _ _
   refine Cd (on xN x ++ on (sub K 0) ks[0]) C2 rfl (Aw (Afc (n0 := xN) (v0 := vs) (y0 := x) (Aec hgx2 px) hdx) (Aw (Afb (n1 := sub K 0) (v1 := vs) (y1 := ks[0]) (Aec (Ci _ _) p0) fun k h1 h2 => hdx k h2 h1) rfl)) ?_
   have hpn : An H0 nm = some _ := q1
   cases hh : Ot x m with
   | false =>
    rw [hh] at hxB
    simp +contextual -dsimp (maxSteps := 2000000) only [↓SD, SU, simprocAttr]
    refine ⟨by omega, Af.le ⟨j + 1, ⟨⟨hlt, fun k hk hkj => ?_⟩, (by first | omega | (simp only; omega))⟩, rfl⟩ (by simp +contextual -dsimp only [↓SD, SU, simprocAttr, Int.natCast_add]) (by show Ax _ H0; rw [hH0]; exact Aec hnm (OVal.self _ _ _))⟩
    rcases Nat.lt_or_ge k j with h | h
    ·exact hjf k hk h
    ·obtain rfl : k = j := by omega
     rw [← hq]; exact hxB
   | true =>
    rw [hh] at hxB
    have hgp : n.Ai.getD j default = ⟨l⟩ := by rw [hq]; simp [List.getD_eq_getElem?_getD, hlt]
    rw [K6 hlt (fun k hk => hjf k (by omega) hk) (by rw [← hq]; exact hxB)]
    dsimp only
    rw [hgp, hgx]
    have hj4 : j + 1 < ks.length := by omega
    have hj0 : -9223372036854775808 ≤ (j : Int) + 1 := by omega
    have hj1 : (j : Int) + 1 ≤ 9223372036854775807 := by omega
    have hj2 : 0 ≤ (j : Int) + 1 := by omega
    have hj3 : (j : Int) + 1 < (ks.length : Int) := by omega
    have hjn : ((j : Int) + 1).toNat = j + 1 := by omega
    have e2 := Ep K vs ks hj4 .top
    rw [AD, ← hE] at e2
    have p1 := q3 (j + 1) hj4
    rw [hgk (j + 1) hj4]
    by_cases hx2 : x.kind = 2
    ·have E2 := eq_true hx2
     rw [if_pos hx2]
     simp +contextual -dsimp (maxSteps := 2000000) only [↓SD, SU, simprocAttr, E2, q1, q2, exB, e0, e2, hj0, hj1, hj2, hj3, hj4, hjn, hel, hl0, hl1, b0, gM, gn, gK, AQ, false_and]
     have hdk : ∀ k, InT (sub K 0) k → ¬ InT (sub K (j + 1)) k := fun k h1 h2 => by have := h1.sib h2; omega
     repeat' apply And.intro
     all_goals
      intro v80 v82
      refine Af.FA 82 0 5 83 86 1 AZ rfl Nat.zero_lt_one rfl (by decide) fun z => ?_
      refine Af.post (P0 v82 v80 z (sub K 0) (sub K (j + 1)) n.pos x.s vs ks[0] ks[j + 1]) ?_
      simp +contextual -dsimp (maxSteps := 2000000) only [↓SD, SU, simprocAttr, false_and]
      refine ⟨⟨(BE (by decide)).trans AZ, ?_, AZ, Ap.2 ⟨?_, ?_⟩⟩, .inr ⟨v82, v80, z, sub K 0, sub K (j + 1), n.pos, x.s, vs, ks[0], ks[j + 1], Ci _ _, Ci _ _, hdk, rfl, rfl, rfl⟩⟩
      ·rw [BE (by decide), BE (by decide), BE (by decide)]; exact AZ
      ·repeat (first | exact p0 | refine Al (fun h => by have := h.ge; omega) ?_)
      ·repeat (first | exact p1 | refine Al (fun h => by have := h.ge; omega) ?_)
    ·have E2 := eq_false hx2
     rw [if_neg hx2]
     simp +contextual -dsimp (maxSteps := 2000000) only [↓SD, SU, simprocAttr, E2, q1, q2, exB, e0, e2, hj0, hj1, hj2, hj3, hj4, hjn, hel, hl0, hl1, b0, gM, gn, gK, AQ, false_and]
     refine Af.post (oh (sub K (j + 1)) vs ks[j + 1]) ?_
     obtain ⟨es1, b1⟩ := Ca p1
     simp +contextual -dsimp (maxSteps := 2000000) only [↓SD, SU, simprocAttr, b1, AQ, false_and]
     exact ⟨Aec (Ci _ _) p1, .inl ⟨sub K (j + 1), vs, by rw [AD], rfl⟩⟩
  ·obtain rfl : j = n.Ai.length := by omega
   rw [K7 (fun k hk => hjf k hk hk)]
   simp +contextual -dsimp (maxSteps := 2000000) only [↓SD, SU, simprocAttr, Nat.lt_irrefl, q1]
   refine Af.post (oh nm vs (Tr.mk n ks)) ?_
   simp +contextual -dsimp (maxSteps := 2000000) only [↓SD, SU, simprocAttr, AD, q1, false_and]
   exact ⟨hs0, .inl ⟨nm, vs, by rw [AD], rfl⟩⟩
end Go.Proofs.YtppjinmlfcokaaaGreat
