/-
 A RULE AT EVERY NODE OF A TREE IN ROWS OF ITS OWN: rewrite, by the program's abstract text. Conditions: none.
-/
import Derived.Test.YtppjinmlfcokaaaGreatVJ34
import Derived.Test.YtppjinmlfcokaaaGreatVJ26
import Derived.Test.YtppjinmlfcokaaaGreatVJ35
set_option linter.unusedVariables false
set_option linter.unusedSimpArgs false
set_option maxRecDepth 100000
namespace Go.Proofs.YtppjinmlfcokaaaGreat
open Go.RowKit Go.Proofs.YtppjinmlfcokaaaGreat.Av Go.Proofs.YtppjinmlfcokaaaGreat.Ml
open Go.Proofs.YtppjinmlfcokaaaGreat.Av.AVal (av)
open OVal (ov oh on)

theorem Ac3 {α : Type} [AVal α] [OVal α] {K : Nat} {vs v1 : Nat → Nat} {l : List α} {i : Nat} (hi : i < l.length) (e' : α) {hp : Hp} (h1 : ∀ k (hk : k < l.length), k ≠ i → AR hp (oh (sub K k) vs l[k])) (h2 : AR hp (oh (sub K i) v1 e'))
  (h3 : Ao hp K = some ⟨vs K, false, OVal.ty α, AVal.n α, (ovL K vs 0 l).set i (ov (sub K i) v1 e')⟩) : AR hp (oh K (glue (sub K i) v1 vs) (l.set i e')) := by
 have hKn : ¬ InT (sub K i) K := fun h => h.ne rfl
 have hne : ∀ k, k ≠ i → ∀ q, InT (sub K k) q → ¬ InT (sub K i) q := fun k hk q h1 h2 => hk (h1.sib h2)
 rw [Cn, AF]
 refine ⟨AL.2 fun p hp => ?_, ?_, trivial⟩
 ·obtain ⟨k, hk, hm⟩ := H7 hp
  rw [Nat.zero_add] at hm
  by_cases hki : k = i
  ·subst hki
   rw [List.getElem_set_self, OP] at hm
   exact AL.1 h2 p hm
  ·rw [List.getElem_set_ne (fun e => hki e.symm), Ki _ _ _ (hne k hki)] at hm
   exact AL.1 (h1 k (by simpa using hk) hki) p hm
 ·rw [h3, Gg, EJ hKn, AeI, OM]
  congr 2
  apply List.ext_getElem?
  intro q
  rw [List.getElem?_set, List.getElem?_set, Dp, Dp]
  by_cases hq : i = q
  ·simp [hq]
  ·rw [if_neg hq, if_neg hq, GO, GO, Nat.zero_add]
   cases hl : l[q]? with
   | none => rfl
   | some a => simp only [Option.map_some]; rw [Vo _ _ _ (hne q (fun e => hq e.symm))]
theorem DW {H : Hp} {nm : Nat} {vs : Nat → Nat} {n : Node} {ks : List Tr} (h : AR H (oh nm vs (Tr.mk n ks))) : Ao H nm = some ⟨vs nm, false, 102, 6, [exB n (sub nm 0) (vs (sub nm 0)) ks.length (sub nm 1) (vs (sub nm 1))]⟩ ∧ Ao H (sub nm 0) = some ⟨vs (sub nm 0), false, 55, 1, ovL (sub nm 0) vs 0 ks⟩ ∧
  (∀ k (hk : k < ks.length), AR H (oh (sub (sub nm 0) k) vs ks[k])) ∧ AR H (oh (sub nm 1) vs n.Ae) := by
 rw [N5, AF, AF] at h
 refine ⟨h.2.2.1, BS h.1, fun k hk => ?_, h.2.1⟩
 have h1 := h.1
 rw [Cn, AF] at h1
 exact AL.2 fun p hp => AL.1 h1.1 p (OT k hk (by rw [Nat.zero_add]; exact hp))
def J6 (R : Tr → Tr) (ks : List Tr) (j : Nat) : List Tr := (ks.take j).map R ++ ks.drop j
theorem VF {R : Tr → Tr} {ks : List Tr} {j : Nat} (h : j ≤ ks.length) : (J6 R ks j).length = ks.length := by simp [J6]; omega
theorem Adg {R : Tr → Tr} {ks : List Tr} {j : Nat} (h : j < ks.length) (h2 : j < (J6 R ks j).length) : (J6 R ks j)[j] = ks[j] := by
 simp only [J6]
 rw [List.getElem_append_right (by simp; omega)]
 simp [Nat.min_eq_left (Nat.le_of_lt h)]
theorem Adf {R : Tr → Tr} {ks : List Tr} {j : Nat} (h : j < ks.length) : (J6 R ks j).set j (R ks[j]) = J6 R ks (j + 1) := by
 have ht : ((ks.take j).map R).length = j := by simp; omega
 simp only [J6]
 rw [List.set_append_right _ _ (by omega), ht, Nat.sub_self, List.drop_eq_getElem_cons h, List.set_cons_zero, List.take_succ_eq_append_getElem h, List.map_append, List.append_assoc]
 rfl
theorem Ro {R : Tr → Tr} : ∀ {l : List Tr}, (∀ k ∈ l, (AZ R k).size ≤ k.size) → Tr.AJ (l.map (AZ R)) ≤ Tr.AJ l
 | [], _ => Nat.le_refl _
 | t :: ts, hl => by
  have a1 := hl t (by simp)
  have a2 := Ro (R := R) (l := ts) fun k hk => hl k (by simp [hk])
  rw [List.map_cons, Tr.AJ, Tr.AJ]; omega
theorem Adh (R : Tr → Tr) (ks : List Tr) : J6 R ks ks.length = ks.map R := by simp [J6]
theorem Kl : ∀ t : Tr, t.size ≤ 4294967296 → Ah Tryz.prog 118 [av t] (.bool (Es t))
 | .mk n ks, h => by
  rw [Tr.size] at h
  have := Cy ks
  exact Yq n ks (by omega)
structure RwS where
 j : Nat
 vs : Nat → Nat
set_option maxHeartbeats 4000000 in
theorem NX {Kp : Tr → Prop} (hk : ∀ n ks, Kp (.mk n ks) → ∀ k ∈ ks, Kp k) (hm : ∀ n ks ks', Kp (.mk n ks) → ks'.length = ks.length → (∀ k ∈ ks', Kp k) → Kp (.mk n ks')) (R : Tr → Tr) (g : FuncId) (hR1 : ∀ t : Tr, Kp t → Kp (R t) ∧ (R t).size ≤ t.size) (hR : ∀ t : Tr, Kp t → t.size ≤ 600 → ∀ nm, 10000 ≤ nm → ∀ vs, Bu Tryz.prog g [ov nm vs t] (oh nm vs t) (DC nm (R t))) :
  ∀ t : Tr, Kp t → t.size ≤ 600 → ∀ nm, 10000 ≤ nm → ∀ vs, Bu Tryz.prog 55 [ov nm vs t, .fn g []] (oh nm vs t) (DC nm (AZ R t)) := by
 refine Tr.ind fun n ks ih hrk hsz nm hnm vs => ?_
 rw [Tr.size] at hsz
 have hkl := Cy ks
 obtain ⟨K, hK⟩ : ∃ K, K = sub nm 0 := ⟨_, rfl⟩
 have hKg : 10000 ≤ K := by rw [hK]; exact Cm _ _
 have hKm : K ≠ nm := by rw [hK]; exact fun e => (InT.root (nm := sub nm 0)).ne e
 refine Im.H rfl ?_
 obtain ⟨H0, hH0⟩ : ∃ H0, H0 = oh nm vs (Tr.mk n ks) := ⟨_, rfl⟩
 have hs0 : AR H0 (oh nm vs (Tr.mk n ks)) := by rw [hH0]; exact OVal.self _ _ _
 obtain ⟨q1, q2, q3, q4⟩ := DW hs0
 rw [← hK] at q1 q2
 rw [← hH0]
 simp +contextual -dsimp (maxSteps := 2000000) only [↓SD, SU, simprocAttr, Im, AD, q1, q2, exB]
 refine Am (X := RwS) (fun x => ⟨[(0, .ptr nm (vs nm) 0 0), (1, .fn g []), (10, .row K (vs K) ks.length), (11, .int .i64 ks.length), (12, .int .i64 x.j)], oh nm x.vs (Tr.mk n (J6 (AZ R) ks x.j))⟩) (fun x => x.j ≤ ks.length ∧ x.vs nm = vs nm ∧ x.vs K = vs K) (fun x => ks.length - x.j) ⟨0, vs⟩ ⟨Nat.zero_le _, rfl, rfl⟩ (by simp +contextual -dsimp only [↓SD, SU, simprocAttr]) (by exact hs0) ?_
 clear q1 q2 q3 q4 hs0 hH0 H0
 rintro ⟨j, v0⟩ ⟨hj, hv1, hv2⟩
 dsimp only at hj hv1 hv2 ⊢
 have hLl := VF (R := AZ R) hj
 obtain ⟨H0, hH0⟩ : ∃ H0, H0 = oh nm v0 (Tr.mk n (J6 (AZ R) ks j)) := ⟨_, rfl⟩
 have hs0 : AR H0 (oh nm v0 (Tr.mk n (J6 (AZ R) ks j))) := by rw [hH0]; exact OVal.self _ _ _
 obtain ⟨q1, q2, q3, q4⟩ := DW hs0
 rw [← hK] at q1 q2 q3
 rw [hv1, hv2, hLl] at q1
 rw [hv2] at q2
 rw [← hH0]
 by_cases hlt : j < ks.length
 ·have hLj : j < (J6 (AZ R) ks j).length := by omega
  have hg := Adg (R := AZ R) hlt hLj
  have e1 := Ji K v0 (J6 (AZ R) ks j) hLj .top
  have hel : (ovL K v0 0 (J6 (AZ R) ks j)).length = ks.length := by rw [Dp, hLl]
  have hm := List.getElem_mem hlt
  have hkr := hk n ks hrk _ hm
  have hks := Cq hm
  have C := ih ks[j] hm hkr (by omega) (sub K j) (Cm _ _) v0
  have q5 := q3 j hLj
  rw [hg] at q5 e1
  have hst := Adf (R := AZ R) hlt
  have hset := fun v1 (hp : Hp) => Ac3 (K := K) (vs := v0) (v1 := v1) hLj (AZ R ks[j]) (hp := hp)
  rw [hst] at hset
  generalize J6 (AZ R) ks j = L at *
  have hL1 := VF (R := AZ R) (ks := ks) (j := j + 1) (by omega)
  obtain ⟨L', hL'⟩ : ∃ L', L' = J6 (AZ R) ks (j + 1) := ⟨_, rfl⟩
  rw [← hL'] at hset hL1
  generalize AZ R ks[j] = t' at *
  generalize ks[j] = t at *
  obtain ⟨es0, q0⟩ := Cf q5
  rw [AD] at e1
  obtain ⟨E, hE⟩ : ∃ E, E = ovL K v0 0 L := ⟨_, rfl⟩
  rw [← hE] at q2 e1 hel hset
  rw [hv2] at hset
  rw [AD] at C
  simp +contextual -dsimp (maxSteps := 2000000) only [↓SD, SU, simprocAttr, hlt, hel, e1, AD, q0, q1, q2, exB]
  refine ⟨?_, ?_⟩
  all_goals
   refine Bt (on (sub K j) t) C (GF q5) ?_
   rintro r hp' ⟨v1, rfl, rfl⟩ H hH
   have hKn : ¬ InT (sub K j) K := fun h => h.ne rfl
   have hnn : ¬ InT (sub K j) nm := fun h => by have h1 := h.le; have h2 := Eu nm 0; have h3 := Eu K j; rw [← hK] at h2; omega
   have p1 := K1 hH hnn q1
   have p2 := K1 hH hKn q2
   have ho := ES hH
   obtain ⟨es1, p0⟩ := Cf ho
   simp +contextual -dsimp (maxSteps := 2000000) only [↓SD, SU, simprocAttr, hlt, hel, e1, AD, p0, p1, p2, exB]
   have g1 : glue (sub K j) v1 v0 nm = vs nm := by rw [EJ hnn, hv1]
   have g2 : glue (sub K j) v1 v0 K = vs K := by rw [EJ hKn, hv2]
   have hPn : ∀ q, InT (sub nm 1) q → ¬ InT (sub K j) q := fun q h h2 => by rw [hK] at h2; exact Dn (i := 0) (j := 1) (by omega) h2.up h
   have g3 : glue (sub K j) v1 v0 (sub nm 1) = v0 (sub nm 1) := EJ (hPn _ .root)
   have hPK : ¬ InT (sub nm 1) K := fun h => by rw [hK] at h; exact Dn (i := 0) (j := 1) (by omega) .root h
   refine ⟨by omega, Af.le ⟨⟨j + 1, glue (sub K j) v1 v0⟩, ⟨⟨hlt, g1, g2⟩, (by first | omega | (simp only; omega))⟩, rfl⟩ (by simp +contextual -dsimp only [↓SD, SU, simprocAttr, Int.natCast_add]) ?_⟩
   dsimp only
   rw [← hL', N5, ← hK, g1, g2, g3, hL1, Ki _ _ _ hPn]
   refine AF.2 ⟨hset v1 _ (fun k hk hkj => ?_) (CM hKn ho) BH, AF.2 ⟨CM hPK (Jh hH hPn q4), ?_, trivial⟩⟩
   ·exact CM (fun h => h.ne rfl) (Jh hH (fun q h1 h2 => hkj (h1.sib h2)) (q3 k hk))
   ·rw [BL hKm]; exact p1
 ·obtain rfl : j = ks.length := by omega
  rw [Adh] at *
  have hrk2 : Kp (Tr.mk n (ks.map (AZ R))) := hm n ks _ hrk (List.length_map _) fun k h => by
   obtain ⟨q, hq, rfl⟩ := List.mem_map.1 h
   exact (GM hk hm hR1 q (hk n ks hrk q hq)).1
  have hsz2 := Ro (R := R) (l := ks) fun k h => (GM hk hm hR1 k (hk n ks hrk k h)).2
  have C := hR _ hrk2 (by rw [Tr.size]; omega) nm hnm v0
  rw [AD, hv1] at C
  rw [KY]
  simp +contextual -dsimp (maxSteps := 2000000) only [↓SD, SU, simprocAttr, Nat.lt_irrefl, q1, exB]
  refine Bt (on nm (Tr.mk n (ks.map (AZ R)))) C (GF hs0) ?_
  rintro r hp' ⟨v1, rfl, rfl⟩ H hH
  have ho := ES hH
  generalize R (Tr.mk n (ks.map (AZ R))) = T at *
  obtain ⟨es1, p0⟩ := Cf ho
  simp +contextual -dsimp (maxSteps := 2000000) only [↓SD, SU, simprocAttr, AD, p0]
  refine Af.post (oh nm v1 T) ?_
  simp +contextual -dsimp (maxSteps := 2000000) only [↓SD, SU, simprocAttr, AD, p0, false_and]
  exact ⟨ho, v1, by rw [AD], rfl⟩
theorem Pn (R : Tr → Tr) (g : FuncId) (hR1 : ∀ t : Tr, t.rk → (R t).rk ∧ (R t).size ≤ t.size) (hR : ∀ t : Tr, t.rk → t.size ≤ 600 → ∀ nm, 10000 ≤ nm → ∀ vs, Bu Tryz.prog g [ov nm vs t] (oh nm vs t) (DC nm (R t))) :
  ∀ t : Tr, t.rk → t.size ≤ 600 → ∀ nm, 10000 ≤ nm → ∀ vs, Bu Tryz.prog 55 [ov nm vs t, .fn g []] (oh nm vs t) (DC nm (AZ R t)) := NX Zl Ae8 R g hR1 hR
end Go.Proofs.YtppjinmlfcokaaaGreat
set_option linter.unusedVariables false
set_option linter.unusedSimpArgs false
set_option maxRecDepth 100000
namespace Go.Proofs.YtppjinmlfcokaaaGreat
open Go.RowKit Go.Proofs.YtppjinmlfcokaaaGreat.Av Go.Proofs.YtppjinmlfcokaaaGreat.Ml
open Go.Proofs.YtppjinmlfcokaaaGreat.Av.AVal (av)
open OVal (ov oh on)

def Ob (x : Bg) (a : Node) : Bool :=
 if x.kind = 1 ∨ x.kind = 2 then true
 else if x.kind = 3 then decide (a.kind = 1) && decide (a.n = x.n)
 else if x.kind = 6 then decide (a.kind = 12)
 else if x.kind = 4 then decide (a.kind = 4) && decide (a.s = x.s) && decide (x.kids.length = 0)
 else false
theorem AeV (q : Pat) (a : Node) : JZ q a = Ob (q.nodes.getD 0 default) a := rfl
theorem KL {a : Node} : ∀ {l : List Pat} {j : Nat} (h : j < l.length), (∀ k (hk : k < j), JZ (l[k]'(by omega)) a = false) → JZ l[j] a = true → HR a l = some j
 | q :: l, 0, h, h1, h2 => by rw [HR, if_pos (show JZ q a = true from h2)]
 | q :: l, j + 1, h, h1, h2 => by
  have h0 := h1 0 (by omega)
  rw [List.getElem_cons_zero] at h0
  rw [HR, if_neg (by rw [h0]; simp), KL (l := l) (j := j) (by simpa using h) (fun k hk => by have := h1 (k + 1) (by omega); simpa using this) (by simpa using h2)]
  rfl
theorem KM {a : Node} : ∀ {l : List Pat}, (∀ k (hk : k < l.length), JZ l[k] a = false) → HR a l = none
 | [], h => rfl
 | q :: l, h => by
  have h0 := h 0 (by simp)
  rw [List.getElem_cons_zero] at h0
  rw [HR, if_neg (by rw [h0]; simp), KM (l := l) (fun k hk => by have := h (k + 1) (by simpa using hk); simpa using this)]
  rfl
theorem Acu (x : Bg) (n : Node) (ks : List Tr) (hl : x.kids.length ≤ 4294967296) : Ah Tryz.prog 120 [av x, av (Tr.mk n ks)] (.bool (Ob x n)) := by
 refine Lq.F rfl (by simp; exact ⟨AVal.clean _, AVal.clean _⟩) (Ad.bool _) ?_
 simp +contextual -dsimp (maxSteps := 2000000) only [↓SD, SU, simprocAttr, Lq, FL, AU, Ab]
 (repeat' (first | intro _ | refine And.intro ?_ ?_))
 all_goals first | omega | (simp [Ob, *]; done) | (simp [Ob, *]; omega) | trace_state
theorem Aaz {α : Type} [AVal α] [OVal α] {K : Nat} {vs : Nat → Nat} {l : List α} {H : Hp} (h : AR H (oh K vs l)) (k : Nat) (hk : k < l.length) : AR H (oh (sub K k) vs l[k]) := by
 rw [Cn, AF] at h
 exact AL.2 fun p hp => AL.1 h.1 p (OT k hk (by rw [Nat.zero_add]; exact hp))
theorem AeR {β : Type} [AVal β] [OVal β] {a : Nat} {vs : Nat → Nat} {z : β} {H : Hp} {b1 b2 b3 b4 : Box} (ha : 10000 ≤ a) (h : AR H (oh a vs z)) : AR ((5, b1) :: (5, b2) :: (4, b3) :: (4, b4) :: H) (oh a vs z) :=
 CM (fun h => by have := h.le; omega) (CM (fun h => by have := h.le; omega) (CM (fun h => by have := h.le; omega) (CM (fun h => by have := h.le; omega) h)))
set_option maxHeartbeats 4000000 in
theorem Ab3 : ∀ t : Tr, t.rk → t.size ≤ 600 → ∀ nm, 10000 ≤ nm → ∀ vs, Bu Tryz.prog 57 [ov nm vs t] (oh nm vs t) (DC nm (AM t)) := by
 rintro ⟨n, ks⟩ hrk hsz nm hnm vs
 rw [Tr.rk] at hrk
 rw [Tr.size] at hsz
 have hkl := Cy ks
 obtain ⟨K, hK⟩ : ∃ K, K = sub nm 0 := ⟨_, rfl⟩
 obtain ⟨P, hP⟩ : ∃ P, P = sub nm 1 := ⟨_, rfl⟩
 have hKm : K ≠ nm := by rw [hK]; exact fun e => (InT.root (nm := sub nm 0)).ne e
 obtain ⟨H0, hH0⟩ : ∃ H0, H0 = oh nm vs (Tr.mk n ks) := ⟨_, rfl⟩
 have hs0 : AR H0 (oh nm vs (Tr.mk n ks)) := by rw [hH0]; exact OVal.self _ _ _
 obtain ⟨q1, q2, q3, q4⟩ := DW hs0
 rw [← hK, ← hP] at q1
 rw [← hK] at q2 q3
 rw [← hP] at q4
 rw [← hH0]
 refine Dt (Post := Aa1 (AM (.mk n ks))) (D4.H rfl ?_) (fun r hp' h => TY nm h)
 by_cases h13 : n.kind = 13
 case neg =>
  have E13 := eq_false h13
  have e : AM (.mk n ks) = .mk n ks := by rw [AM, if_neg (fun h => h13 h.1)]
  rw [e]
  simp +contextual -dsimp (maxSteps := 2000000) only [↓SD, SU, simprocAttr, D4, AD, q1, q2, exB, E13]
  refine Af.post (oh nm vs (Tr.mk n ks)) ?_
  simp +contextual -dsimp (maxSteps := 2000000) only [↓SD, SU, simprocAttr, AD, q1, false_and]
  exact ⟨hs0, .inl ⟨nm, vs, by rw [AD], rfl⟩⟩
 have E13 := eq_true h13
 have hl := hrk.1.2.2.1 h13
 have hl0 : 0 < ks.length := by omega
 have hl1 : (0 : Int) < (ks.length : Int) := by omega
 have r0 := Ch.1 hrk.2 _ (List.getElem_mem hl0)
 have s0 := Cq (List.getElem_mem hl0)
 have p0 : AR H0 (oh (sub K 0) vs ks[0]) := q3 0 hl0
 have e0 := Ji K vs ks hl0 .top
 rw [AD] at e0
 have hel : (ovL K vs 0 ks).length = ks.length := Dp _ _ _ _
 have hgk : ∀ i (h : i < ks.length), ks.getD i (.mk default []) = ks[i] := fun i h => by simp [List.getD_eq_getElem?_getD, h]
 have C := Kl ks[0] (by omega)
 have hlend := HH (AD (sub K 0) vs ks[0]).symm p0
 rw [AM, hgk 0 hl0]
 cases hp : Es ks[0] with
 | false =>
  rw [hp] at C
  rw [if_neg (fun h => by cases h.2.1)]
  obtain ⟨es0, b0⟩ := Cf p0
  obtain ⟨E, hE⟩ : ∃ E, E = ovL K vs 0 ks := ⟨_, rfl⟩
  rw [← hE] at q2 e0 hel
  simp +contextual -dsimp (maxSteps := 2000000) only [↓SD, SU, simprocAttr, D4, AD, q1, q2, exB, E13, b0, e0, hel, hl0, hl1, false_and]
  refine Dz (on (sub K 0) ks[0]) C rfl (A3 hlend rfl) ?_
  simp +contextual -dsimp (maxSteps := 2000000) only [↓SD, SU, simprocAttr, q1]
  refine Af.post (oh nm vs (Tr.mk n ks)) ?_
  simp +contextual -dsimp (maxSteps := 2000000) only [↓SD, SU, simprocAttr, AD, q1, false_and]
  exact ⟨hs0, .inl ⟨nm, vs, by rw [AD], rfl⟩⟩
 | true =>
  rw [hp] at C
  obtain ⟨m0, m1, m2⟩ := HE r0 hp
  have p0' := p0
  rw [m0] at p0'
  obtain ⟨b0, -, -, -⟩ := DW p0'
  obtain ⟨m, hm⟩ : ∃ m, m = ks[0].hd := ⟨_, rfl⟩
  rw [← hm] at m0 m1 m2 b0 ⊢
  by_cases h2 : m.kind = 2
  ·have E2 := eq_true h2
   rw [if_neg (fun h => h.2.2 h2)]
   obtain ⟨E, hE⟩ : ∃ E, E = ovL K vs 0 ks := ⟨_, rfl⟩
   rw [← hE] at q2 e0 hel
   simp +contextual -dsimp (maxSteps := 2000000) only [↓SD, SU, simprocAttr, D4, AD, q1, q2, exB, E13, b0, e0, hel, hl0, hl1, false_and]
   refine Dz (on (sub K 0) ks[0]) C rfl (A3 hlend rfl) ?_
   simp +contextual -dsimp (maxSteps := 2000000) only [↓SD, SU, simprocAttr, q1, q2, exB, e0, hel, hl0, hl1, b0, E2, false_and]
   refine Af.post (oh nm vs (Tr.mk n ks)) ?_
   simp +contextual -dsimp (maxSteps := 2000000) only [↓SD, SU, simprocAttr, AD, q1, false_and]
   exact ⟨hs0, .inl ⟨nm, vs, by rw [AD], rfl⟩⟩
  have E2 := eq_false h2
  rw [if_pos ⟨h13, rfl, h2⟩]
  obtain ⟨E, hE⟩ : ∃ E, E = ovL K vs 0 ks := ⟨_, rfl⟩
  rw [← hE] at q2 e0 hel
  simp +contextual -dsimp (maxSteps := 2000000) only [↓SD, SU, simprocAttr, D4, AD, q1, q2, exB, E13, b0, e0, hel, hl0, hl1, false_and]
  refine Dz (on (sub K 0) ks[0]) C rfl (A3 hlend rfl) ?_
  simp +contextual -dsimp (maxSteps := 2000000) only [↓SD, SU, simprocAttr, q1, q2, exB, e0, hel, hl0, hl1, b0, E2, false_and]
  refine Am (X := Nat) (fun j => ⟨[(0, .ptr nm (vs nm) 0 0), (37, .row P (vs P) n.Ae.length), (38, .int .i64 n.Ae.length), (39, .int .i64 j)], oh nm vs (Tr.mk n ks)⟩) (fun j => j ≤ n.Ae.length ∧ ∀ k (hk : k < n.Ae.length), k < j → JZ n.Ae[k] m = false) (fun j => n.Ae.length - j) 0 ⟨Nat.zero_le _, fun k hk h => by omega⟩ (by simp +contextual -dsimp only [↓SD, SU, simprocAttr]) (by exact hs0) ?_
  rintro j ⟨hj, hjf⟩
  try dsimp only at hj hjf ⊢
  rw [← hH0]
  by_cases hlt : j < n.Ae.length
  ·have rP : Ao H0 P = some ⟨vs P, false, 86, 1, ovL P vs 0 n.Ae⟩ := BS q4
   have eP := Ji P vs n.Ae hlt .top
   have elP : (ovL P vs 0 n.Ae).length = n.Ae.length := Dp _ _ _ _
   have pq := Aaz q4 j hlt
   have hne := hrk.1.2.2.2.2.1 _ (List.getElem_mem hlt)
   have hxB := AeV n.Ae[j] m
   have hbj := Au (List.getElem_mem hlt)
   obtain ⟨Q, hQ⟩ : ∃ Q, Q = sub P j := ⟨_, rfl⟩
   obtain ⟨⟨l⟩, hq⟩ : ∃ q, q = n.Ae[j] := ⟨_, rfl⟩
   rw [← hq] at eP pq hne hxB hbj
   rw [← hQ] at eP pq
   dsimp only at hne hxB
   rw [Tv] at eP
   rw [X6] at pq
   dsimp only at eP pq
   have hl2 : 0 < l.length := List.length_pos_iff.2 hne
   have hl3 : (0 : Int) < (l.length : Int) := by omega
   obtain ⟨M, hM⟩ : ∃ M, M = sub Q 0 := ⟨_, rfl⟩
   rw [← hM] at eP pq
   have rM : Ao H0 M = some ⟨vs M, false, 96, 4, ovL M vs 0 l⟩ := BS pq
   have eM := Ji M vs l hl2 .top
   have elM : (ovL M vs 0 l).length = l.length := Dp _ _ _ _
   have px := Aaz pq 0 hl2
   have hgx : l.getD 0 default = l[0] := by simp [List.getD_eq_getElem?_getD, hl2]
   rw [hgx] at hxB
   have hbx := Au (List.getElem_mem hl2)
   obtain ⟨xN, hxN⟩ : ∃ xN, xN = sub M 0 := ⟨_, rfl⟩
   rw [← hxN] at eM px
   generalize hx : l[0] = x at *
   rw [Vp] at eM
   have px2 := px
   rw [VB] at px2
   have rX : Ao H0 (sub xN 0) = some ⟨vs (sub xN 0), false, 3, 1, ovL (sub xN 0) vs 0 x.kids⟩ := BS px2
   have gM : ∀ q, q < 10000 → (q == M) = false ∧ (q = M) = False ∧ (M = q) = False := fun q hq => by
    have : 10000 ≤ M := by rw [hM]; exact Cm _ _
    exact ⟨beq_eq_false_iff_ne.2 (by omega), eq_false (by omega), eq_false (by omega)⟩
   have gn : ∀ q, q < 10000 → (q == nm) = false ∧ (q = nm) = False ∧ (nm = q) = False := fun q hq => ⟨beq_eq_false_iff_ne.2 (by omega), eq_false (by omega), eq_false (by omega)⟩
   have gK : ∀ q, q < 10000 → (q == K) = false ∧ (q = K) = False ∧ (K = q) = False := fun q hq => by
    have : 10000 ≤ K := by rw [hK]; exact Cm _ _
    exact ⟨beq_eq_false_iff_ne.2 (by omega), eq_false (by omega), eq_false (by omega)⟩
   simp +contextual -dsimp (maxSteps := 2000000) only [↓SD, SU, simprocAttr, hlt, rP, eP, elP, rM, eM, elM, hl2, hl3, q1, q2, exB, e0, hel, hl0, hl1, b0, rX, gM, gn, gK, Cu, false_and]
   intro v4 v5
   have hxl : x.kids.length ≤ 4294967296 := by
    have b1 : Ac.bulk x = Ac.bulk x.kind + Ac.bulk x.n + Ac.bulk x.s + Ac.bulk x.kids + 1 := rfl
    have b2 := Ai x.kids
    have b3 : Ac.bulk (⟨l⟩ : Pat) = Ac.bulk l + 1 := rfl
    have b4 : Ac.bulk n = Ac.bulk n.kind + Ac.bulk n.pos + Ac.bulk n.n + Ac.bulk n.s + Ac.bulk n.kids + Ac.bulk n.Ae + 1 := rfl
    have b5 := hrk.1.2.2.2.2.2.2
    omega
   have C2 := Acu x m [] hxl
   rw [← m0] at C2
   have hdx : ∀ k, InT xN k → ¬ InT (sub K 0) k := fun k h1 h2 => by
    rw [hxN] at h1
    have h1 := h1.up
    rw [hM] at h1
    have h1 := h1.up
    rw [hQ] at h1
    have h1 := h1.up
    have h2 := h2.up
    rw [hP] at h1
    rw [hK] at h2
    exact Dn (i := 1) (j := 0) (by omega) h1 h2
   have hgx2 : 10000 ≤ xN := by rw [hxN]; exact Cm _ _
   refine Dz (on xN x ++ on (sub K 0) ks[0]) C2 rfl (A3 (AfQ (n0 := xN) (v0 := vs) (y0 := x) (AeR hgx2 px) hdx) (A3 (AfP (n1 := sub K 0) (v1 := vs) (y1 := ks[0]) (AeR (Cm _ _) p0) fun k h1 h2 => hdx k h2 h1) rfl)) ?_
   have hpn : Ao H0 nm = some _ := q1
   cases hh : Ob x m with
   | false =>
    rw [hh] at hxB
    simp +contextual -dsimp (maxSteps := 2000000) only [↓SD, SU, simprocAttr]
    refine ⟨by omega, Af.le ⟨j + 1, ⟨⟨hlt, fun k hk hkj => ?_⟩, (by first | omega | (simp only; omega))⟩, rfl⟩ (by simp +contextual -dsimp only [↓SD, SU, simprocAttr, Int.natCast_add]) (by show AR _ H0; rw [hH0]; exact AeR hnm (OVal.self _ _ _))⟩
    rcases Nat.lt_or_ge k j with h | h
    ·exact hjf k hk h
    ·obtain rfl : k = j := by omega
     rw [← hq]; exact hxB
   | true =>
    rw [hh] at hxB
    have hgp : n.Ae.getD j default = ⟨l⟩ := by rw [hq]; simp [List.getD_eq_getElem?_getD, hlt]
    rw [KL hlt (fun k hk => hjf k (by omega) hk) (by rw [← hq]; exact hxB)]
    dsimp only
    rw [hgp, hgx]
    have hj4 : j + 1 < ks.length := by omega
    have hj0 : -9223372036854775808 ≤ (j : Int) + 1 := by omega
    have hj1 : (j : Int) + 1 ≤ 9223372036854775807 := by omega
    have hj2 : 0 ≤ (j : Int) + 1 := by omega
    have hj3 : (j : Int) + 1 < (ks.length : Int) := by omega
    have hjn : ((j : Int) + 1).toNat = j + 1 := by omega
    have e2 := Ji K vs ks hj4 .top
    rw [AD, ← hE] at e2
    have p1 := q3 (j + 1) hj4
    rw [hgk (j + 1) hj4]
    by_cases hx2 : x.kind = 2
    ·have E2 := eq_true hx2
     rw [if_pos hx2]
     simp +contextual -dsimp (maxSteps := 2000000) only [↓SD, SU, simprocAttr, E2, q1, q2, exB, e0, e2, hj0, hj1, hj2, hj3, hj4, hjn, hel, hl0, hl1, b0, gM, gn, gK, Cu, false_and]
     have hdk : ∀ k, InT (sub K 0) k → ¬ InT (sub K (j + 1)) k := fun k h1 h2 => by have := h1.sib h2; omega
     repeat' apply And.intro
     all_goals
      intro v80 v82
      refine Af.FC 82 0 5 83 86 1 BH rfl Nat.zero_lt_one rfl (by decide) fun z => ?_
      refine Af.post (PY v82 v80 z (sub K 0) (sub K (j + 1)) n.pos x.s vs ks[0] ks[j + 1]) ?_
      simp +contextual -dsimp (maxSteps := 2000000) only [↓SD, SU, simprocAttr, false_and]
      refine ⟨⟨(BL (by decide)).trans BH, ?_, BH, AF.2 ⟨?_, ?_⟩⟩, .inr ⟨v82, v80, z, sub K 0, sub K (j + 1), n.pos, x.s, vs, ks[0], ks[j + 1], Cm _ _, Cm _ _, hdk, rfl, rfl, rfl⟩⟩
      ·rw [BL (by decide), BL (by decide), BL (by decide)]; exact BH
      ·repeat (first | exact p0 | refine CM (fun h => by have := h.ge; omega) ?_)
      ·repeat (first | exact p1 | refine CM (fun h => by have := h.ge; omega) ?_)
    ·have E2 := eq_false hx2
     rw [if_neg hx2]
     simp +contextual -dsimp (maxSteps := 2000000) only [↓SD, SU, simprocAttr, E2, q1, q2, exB, e0, e2, hj0, hj1, hj2, hj3, hj4, hjn, hel, hl0, hl1, b0, gM, gn, gK, Cu, false_and]
     refine Af.post (oh (sub K (j + 1)) vs ks[j + 1]) ?_
     obtain ⟨es1, b1⟩ := Cf p1
     simp +contextual -dsimp (maxSteps := 2000000) only [↓SD, SU, simprocAttr, b1, Cu, false_and]
     exact ⟨AeR (Cm _ _) p1, .inl ⟨sub K (j + 1), vs, by rw [AD], rfl⟩⟩
  ·obtain rfl : j = n.Ae.length := by omega
   rw [KM (fun k hk => hjf k hk hk)]
   simp +contextual -dsimp (maxSteps := 2000000) only [↓SD, SU, simprocAttr, Nat.lt_irrefl, q1]
   refine Af.post (oh nm vs (Tr.mk n ks)) ?_
   simp +contextual -dsimp (maxSteps := 2000000) only [↓SD, SU, simprocAttr, AD, q1, false_and]
   exact ⟨hs0, .inl ⟨nm, vs, by rw [AD], rfl⟩⟩
end Go.Proofs.YtppjinmlfcokaaaGreat
