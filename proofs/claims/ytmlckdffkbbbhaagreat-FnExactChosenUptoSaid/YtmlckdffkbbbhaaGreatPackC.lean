/-
 THE GROUND OF DATA, in one text. Conditions: none.
-/
import Derived.Test.YtmlckdffkbbbhaaGreatPackY
import Derived.Test.YtmlckdffkbbbhaaGreatPackX
import Derived.Test.YtmlckdffkbbbhaaGreatIrTidyP
import Derived.Test.YtmlckdffkbbbhaaGreatIrTidyC
import Derived.Test.YtmlckdffkbbbhaaGreatPackF
import Derived.Test.YtmlckdffkbbbhaaGreatPackP
import Derived.Test.YtmlckdffkbbbhaaGreatPackZ
import Derived.Test.YtmlckdffkbbbhaaGreatIrTidyT

set_option linter.unusedVariables false
set_option linter.unusedSimpArgs false
set_option maxRecDepth 100000
namespace Go.Proofs.YtmlckdffkbbbhaaGreat
open Go.RowKit Go.Proofs.YtmlckdffkbbbhaaGreat.Av Go.Proofs.YtmlckdffkbbbhaaGreat.Ml
open Go.Proofs.YtmlckdffkbbbhaaGreat.Av.AVal (av)
open OVal (ov oh on)

theorem oh_set {α : Type} [AVal α] [OVal α] {K : Nat} {vs v1 : Nat → Nat} {l : List α} {i : Nat} (hi : i < l.length) (e' : α) {hp : Hp} (h1 : ∀ k (hk : k < l.length), k ≠ i → hpLe hp (oh (sub K k) vs l[k])) (h2 : hpLe hp (oh (sub K i) v1 e'))
  (h3 : hget hp K = some ⟨vs K, false, OVal.ty α, AVal.n α, (ovL K vs 0 l).set i (ov (sub K i) v1 e')⟩) : hpLe hp (oh K (glue (sub K i) v1 vs) (l.set i e')) := by
 have hKn : ¬ InT (sub K i) K := fun h => h.ne rfl
 have hne : ∀ k, k ≠ i → ∀ q, InT (sub K k) q → ¬ InT (sub K i) q := fun k hk q h1 h2 => hk (h1.sib h2)
 rw [oh_list, hpLe_app]
 refine ⟨hpLe_iff.2 fun p hp => ?_, ?_, trivial⟩
 ·obtain ⟨k, hk, hm⟩ := ohL_mem hp
  rw [Nat.zero_add] at hm
  by_cases hki : k = i
  ·subst hki
   rw [List.getElem_set_self, oh_glue] at hm
   exact hpLe_iff.1 h2 p hm
  ·rw [List.getElem_set_ne (fun e => hki e.symm), oh_glue' _ _ _ (hne k hki)] at hm
   exact hpLe_iff.1 (h1 k (by simpa using hk) hki) p hm
 ·rw [h3, lbox, glue_out hKn, ovL_set, ov_glue]
  congr 2
  apply List.ext_getElem?
  intro q
  rw [List.getElem?_set, List.getElem?_set, ovL_len, ovL_len]
  by_cases hq : i = q
  ·simp [hq]
  ·rw [if_neg hq, if_neg hq, ovL_get?, ovL_get?, Nat.zero_add]
   cases hl : l[q]? with
   | none => rfl
   | some a => simp only [Option.map_some]; rw [ov_glue' _ _ _ (hne q (fun e => hq e.symm))]
theorem tr_parts {H : Hp} {nm : Nat} {vs : Nat → Nat} {n : Node} {ks : List Tr} (h : hpLe H (oh nm vs (Tr.mk n ks))) : hget H nm = some ⟨vs nm, false, 100, 6, [exB n (sub nm 0) (vs (sub nm 0)) ks.length (sub nm 1) (vs (sub nm 1))]⟩ ∧ hget H (sub nm 0) = some ⟨vs (sub nm 0), false, 54, 1, ovL (sub nm 0) vs 0 ks⟩ ∧
  (∀ k (hk : k < ks.length), hpLe H (oh (sub (sub nm 0) k) vs ks[k])) ∧ hpLe H (oh (sub nm 1) vs n.pats) := by
 rw [oh_Tr, hpLe_app, hpLe_app] at h
 refine ⟨h.2.2.1, hpLe_root h.1, fun k hk => ?_, h.2.1⟩
 have h1 := h.1
 rw [oh_list, hpLe_app] at h1
 exact hpLe_iff.2 fun p hp => hpLe_iff.1 h1.1 p (mem_ohL k hk (by rw [Nat.zero_add]; exact hp))
def mixT (R : Tr → Tr) (ks : List Tr) (j : Nat) : List Tr := (ks.take j).map R ++ ks.drop j
theorem mixT_len {R : Tr → Tr} {ks : List Tr} {j : Nat} (h : j ≤ ks.length) : (mixT R ks j).length = ks.length := by simp [mixT]; omega
theorem mixT_get {R : Tr → Tr} {ks : List Tr} {j : Nat} (h : j < ks.length) (h2 : j < (mixT R ks j).length) : (mixT R ks j)[j] = ks[j] := by
 simp only [mixT]
 rw [List.getElem_append_right (by simp; omega)]
 simp [Nat.min_eq_left (Nat.le_of_lt h)]
theorem mixT_set {R : Tr → Tr} {ks : List Tr} {j : Nat} (h : j < ks.length) : (mixT R ks j).set j (R ks[j]) = mixT R ks (j + 1) := by
 have ht : ((ks.take j).map R).length = j := by simp; omega
 simp only [mixT]
 rw [List.set_append_right _ _ (by omega), ht, Nat.sub_self, List.drop_eq_getElem_cons h, List.set_cons_zero, List.take_succ_eq_append_getElem h, List.map_append, List.append_assoc]
 rfl
theorem sizes_rew {R : Tr → Tr} : ∀ {l : List Tr}, (∀ k ∈ l, (rewT R k).size ≤ k.size) → Tr.sizes (l.map (rewT R)) ≤ Tr.sizes l
 | [], _ => Nat.le_refl _
 | t :: ts, hl => by
  have a1 := hl t (by simp)
  have a2 := sizes_rew (R := R) (l := ts) fun k hk => hl k (by simp [hk])
  rw [List.map_cons, Tr.sizes, Tr.sizes]; omega
theorem mixT_all (R : Tr → Tr) (ks : List Tr) : mixT R ks ks.length = ks.map R := by simp [mixT]
theorem isPlainT_ok : ∀ t : Tr, t.size ≤ 1048576 → CallsF Tryz.prog 62 [av t] (.bool (plainT t))
 | .mk n ks, h => by
  rw [Tr.size] at h
  have := sizes_len ks
  exact isPlain_ok n ks (by omega)
structure RwS where
 j : Nat
 vs : Nat → Nat
set_option maxHeartbeats 4000000 in
theorem rewrite_ok (R : Tr → Tr) (g : FuncId) (hR1 : ∀ t : Tr, t.rk → (R t).rk ∧ (R t).size ≤ t.size) (hR : ∀ t : Tr, t.rk → t.size ≤ 600 → ∀ nm, 10000 ≤ nm → ∀ vs, CallsH Tryz.prog g [ov nm vs t] (oh nm vs t) (ToPost nm (R t))) :
  ∀ t : Tr, t.rk → t.size ≤ 600 → ∀ nm, 10000 ≤ nm → ∀ vs, CallsH Tryz.prog 27 [ov nm vs t, .fn g []] (oh nm vs t) (ToPost nm (rewT R t)) := by
 refine Tr.ind fun n ks ih hrk hsz nm hnm vs => ?_
 have hrk0 := hrk
 rw [Tr.rk] at hrk
 rw [Tr.size] at hsz
 have hkl := sizes_len ks
 obtain ⟨K, hK⟩ : ∃ K, K = sub nm 0 := ⟨_, rfl⟩
 have hKg : 10000 ≤ K := by rw [hK]; exact sub_ge _ _
 have hKm : K ≠ nm := by rw [hK]; exact fun e => (InT.root (nm := sub nm 0)).ne e
 refine funH_impl_rewrite_H rfl ?_
 obtain ⟨H0, hH0⟩ : ∃ H0, H0 = oh nm vs (Tr.mk n ks) := ⟨_, rfl⟩
 have hs0 : hpLe H0 (oh nm vs (Tr.mk n ks)) := by rw [hH0]; exact OVal.self _ _ _
 obtain ⟨q1, q2, q3, q4⟩ := tr_parts hs0
 rw [← hK] at q1 q2
 rw [← hH0]
 simp +contextual -dsimp (maxSteps := 2000000) only [↓SD, SU, SB, simprocAttr, ir_impl_rewrite_H, rs_impl_rewrite_H, ov_Tr, q1, q2, exB]
 refine aLoop_of (X := RwS) (fun x => ⟨[(0, .ptr nm (vs nm) 0 0), (1, .fn g []), (10, .row K (vs K) ks.length), (11, .int .i64 ks.length), (12, .int .i64 x.j)], oh nm x.vs (Tr.mk n (mixT (rewT R) ks x.j))⟩) (fun x => x.j ≤ ks.length ∧ x.vs nm = vs nm ∧ x.vs K = vs K) (fun x => ks.length - x.j) ⟨0, vs⟩ ⟨Nat.zero_le _, rfl, rfl⟩ (by simp +contextual -dsimp only [↓SD, SU, SB, simprocAttr]) (by exact hs0) ?_
 clear q1 q2 q3 q4 hs0 hH0 H0
 rintro ⟨j, v0⟩ ⟨hj, hv1, hv2⟩
 dsimp only at hj hv1 hv2 ⊢
 have hLl := mixT_len (R := rewT R) hj
 obtain ⟨H0, hH0⟩ : ∃ H0, H0 = oh nm v0 (Tr.mk n (mixT (rewT R) ks j)) := ⟨_, rfl⟩
 have hs0 : hpLe H0 (oh nm v0 (Tr.mk n (mixT (rewT R) ks j))) := by rw [hH0]; exact OVal.self _ _ _
 obtain ⟨q1, q2, q3, q4⟩ := tr_parts hs0
 rw [← hK] at q1 q2 q3
 rw [hv1, hv2, hLl] at q1
 rw [hv2] at q2
 rw [← hH0]
 by_cases hlt : j < ks.length
 ·have hLj : j < (mixT (rewT R) ks j).length := by omega
  have hg := mixT_get (R := rewT R) hlt hLj
  have e1 := ovL_get K v0 (mixT (rewT R) ks j) hLj .top
  have hel : (ovL K v0 0 (mixT (rewT R) ks j)).length = ks.length := by rw [ovL_len, hLl]
  have hm := List.getElem_mem hlt
  have hkr := rks_iff.1 hrk.2 _ hm
  have hks := sizes_mem hm
  have C := ih ks[j] hm hkr (by omega) (sub K j) (sub_ge _ _) v0
  have q5 := q3 j hLj
  rw [hg] at q5 e1
  have hst := mixT_set (R := rewT R) hlt
  have hset := fun v1 (hp : Hp) => oh_set (K := K) (vs := v0) (v1 := v1) hLj (rewT R ks[j]) (hp := hp)
  rw [hst] at hset
  generalize mixT (rewT R) ks j = L at *
  have hL1 := mixT_len (R := rewT R) (ks := ks) (j := j + 1) (by omega)
  obtain ⟨L', hL'⟩ : ∃ L', L' = mixT (rewT R) ks (j + 1) := ⟨_, rfl⟩
  rw [← hL'] at hset hL1
  generalize rewT R ks[j] = t' at *
  generalize ks[j] = t at *
  obtain ⟨es0, q0⟩ := tr_root q5
  rw [ov_Tr] at e1
  obtain ⟨E, hE⟩ : ∃ E, E = ovL K v0 0 L := ⟨_, rfl⟩
  rw [← hE] at q2 e1 hel hset
  rw [hv2] at hset
  rw [ov_Tr] at C
  simp +contextual -dsimp (maxSteps := 2000000) only [↓SD, SU, SB, simprocAttr, hlt, hel, e1, ov_Tr, q0, q1, q2, exB]
  refine ⟨?_, ?_⟩
  all_goals
   refine aCallH_gen (on (sub K j) t) C (hsel_on q5) ?_
   rintro r hp' ⟨v1, rfl, rfl⟩ H hH
   have hKn : ¬ InT (sub K j) K := fun h => h.ne rfl
   have hnn : ¬ InT (sub K j) nm := fun h => by have h1 := h.le; have h2 := lt_sub nm 0; have h3 := lt_sub K j; rw [← hK] at h2; omega
   have p1 := part_root hH hnn q1
   have p2 := part_root hH hKn q2
   have ho := part_done hH
   obtain ⟨es1, p0⟩ := tr_root ho
   simp +contextual -dsimp (maxSteps := 2000000) only [↓SD, SU, SB, simprocAttr, hlt, hel, e1, ov_Tr, p0, p1, p2, exB]
   have g1 : glue (sub K j) v1 v0 nm = vs nm := by rw [glue_out hnn, hv1]
   have g2 : glue (sub K j) v1 v0 K = vs K := by rw [glue_out hKn, hv2]
   have hPn : ∀ q, InT (sub nm 1) q → ¬ InT (sub K j) q := fun q h h2 => by rw [hK] at h2; exact sib_ne (i := 0) (j := 1) (by omega) h2.up h
   have g3 : glue (sub K j) v1 v0 (sub nm 1) = v0 (sub nm 1) := glue_out (hPn _ .root)
   have hPK : ¬ InT (sub nm 1) K := fun h => by rw [hK] at h; exact sib_ne (i := 0) (j := 1) (by omega) .root h
   refine ⟨by omega, Goes.le ⟨⟨j + 1, glue (sub K j) v1 v0⟩, ⟨⟨hlt, g1, g2⟩, (by first | omega | (simp only; omega))⟩, rfl⟩ (by simp +contextual -dsimp only [↓SD, SU, SB, simprocAttr, Int.natCast_add]) ?_⟩
   dsimp only
   rw [← hL', oh_Tr, ← hK, g1, g2, g3, hL1, oh_glue' _ _ _ hPn]
   refine hpLe_app.2 ⟨hset v1 _ (fun k hk hkj => ?_) (hpLe_skip hKn ho) hg_eq, hpLe_app.2 ⟨hpLe_skip hPK (part_other hH hPn q4), ?_, trivial⟩⟩
   ·exact hpLe_skip (fun h => h.ne rfl) (part_other hH (fun q h1 h2 => hkj (h1.sib h2)) (q3 k hk))
   ·rw [hg_ne hKm]; exact p1
 ·obtain rfl : j = ks.length := by omega
  rw [mixT_all] at *
  have hrk2 : (Tr.mk n (ks.map (rewT R))).rk := by
   rw [Tr.rk, List.length_map]
   refine ⟨hrk.1, rks_iff.2 fun k hk => ?_⟩
   obtain ⟨q, hq, rfl⟩ := List.mem_map.1 hk
   exact (rewT_rk hR1 q (rks_iff.1 hrk.2 q hq)).1
  have hsz2 := sizes_rew (R := R) (l := ks) fun k hk => (rewT_rk hR1 k (rks_iff.1 hrk.2 k hk)).2
  have C := hR _ hrk2 (by rw [Tr.size]; omega) nm hnm v0
  rw [ov_Tr, hv1] at C
  rw [rewT_mk]
  simp +contextual -dsimp (maxSteps := 2000000) only [↓SD, SU, SB, simprocAttr, Nat.lt_irrefl, q1, exB]
  refine aCallH_gen (on nm (Tr.mk n (ks.map (rewT R)))) C (hsel_on hs0) ?_
  rintro r hp' ⟨v1, rfl, rfl⟩ H hH
  have ho := part_done hH
  generalize R (Tr.mk n (ks.map (rewT R))) = T at *
  obtain ⟨es1, p0⟩ := tr_root ho
  simp +contextual -dsimp (maxSteps := 2000000) only [↓SD, SU, SB, simprocAttr, ov_Tr, p0]
  refine Goes.post (oh nm v1 T) ?_
  simp +contextual -dsimp (maxSteps := 2000000) only [↓SD, SU, SB, simprocAttr, ov_Tr, p0, false_and]
  exact ⟨ho, v1, by rw [ov_Tr], rfl⟩
end Go.Proofs.YtmlckdffkbbbhaaGreat

namespace Go.Proofs.YtmlckdffkbbbhaaGreat
open Go.RowKit Go.Proofs.YtmlckdffkbbbhaaGreat.Av Go.Proofs.YtmlckdffkbbbhaaGreat.Ml
open Go.Proofs.YtmlckdffkbbbhaaGreat.Av.AVal (av)
open OVal (ov oh on)

inductive LetR (nm a b : Nat) : Nat → Nat → Prop where
 | root : LetR nm a b 82 nm
 | row : LetR nm a b 80 (sub nm 0)
 | pats : LetR nm a b 83 (sub nm 1)
 | fst {k k' : Nat} (h : Pth a (sub (sub nm 0) 0) k k') : LetR nm a b k k'
 | snd {k k' : Nat} (h : Pth b (sub (sub nm 0) 1) k k') : LetR nm a b k k'
theorem LetR.cs {nm a b k k' : Nat} (h : LetR nm a b k k') : (k = 82 ∧ k' = nm) ∨ (k = 80 ∧ k' = sub nm 0) ∨ (k = 83 ∧ k' = sub nm 1) ∨ Pth a (sub (sub nm 0) 0) k k' ∨ Pth b (sub (sub nm 0) 1) k k' := by
 cases h with
 | root => exact .inl ⟨rfl, rfl⟩
 | row => exact .inr (.inl ⟨rfl, rfl⟩)
 | pats => exact .inr (.inr (.inl ⟨rfl, rfl⟩))
 | fst h => exact .inr (.inr (.inr (.inl h)))
 | snd h => exact .inr (.inr (.inr (.inr h)))
theorem LetR.inj {nm a b : Nat} (ha : 10000 ≤ a) (hb : 10000 ≤ b) (hab : ∀ k, InT a k → ¬ InT b k) : ∀ k k1 k2, LetR nm a b k k1 → LetR nm a b k k2 → k1 = k2 := by
 intro k k1 k2 h1 h2
 have fa : ∀ {k k'}, Pth a (sub (sub nm 0) 0) k k' → 10000 ≤ k := fun h => Nat.le_trans ha h.l.le
 have fb : ∀ {k k'}, Pth b (sub (sub nm 0) 1) k k' → 10000 ≤ k := fun h => Nat.le_trans hb h.l.le
 rcases h1.cs with h1 | h1 | h1 | h1 | h1 <;> rcases h2.cs with h2 | h2 | h2 | h2 | h2
 all_goals first
  | omega
  | (have := fa h1; omega)
  | (have := fb h1; omega)
  | (have := fa h2; omega)
  | (have := fb h2; omega)
  | exact h1.inj h2
  | exact absurd h2.l (hab _ h1.l)
  | exact absurd h1.l (hab _ h2.l)
theorem LetR.inj' {nm a b : Nat} : ∀ k1 k2 k', LetR nm a b k1 k' → LetR nm a b k2 k' → k1 = k2 := by
 intro k1 k2 k' h1 h2
 have n1 := lt_sub nm 0
 have n2 := lt_sub nm 1
 have n3 : sub nm 0 ≠ sub nm 1 := fun e => by have := (sub_inj e).2; omega
 have fa : ∀ {k k'}, Pth a (sub (sub nm 0) 0) k k' → sub nm 0 < k' ∧ k' ≠ sub nm 1 := fun h => ⟨Nat.lt_of_lt_of_le (lt_sub _ _) h.r.le, fun e => by have := h.r.up; rw [e] at this; exact sib_ne (i := 0) (j := 1) (by omega) this .root⟩
 have fb : ∀ {k k'}, Pth b (sub (sub nm 0) 1) k k' → sub nm 0 < k' ∧ k' ≠ sub nm 1 := fun h => ⟨Nat.lt_of_lt_of_le (lt_sub _ _) h.r.le, fun e => by have := h.r.up; rw [e] at this; exact sib_ne (i := 0) (j := 1) (by omega) this .root⟩
 rcases h1.cs with h1 | h1 | h1 | h1 | h1 <;> rcases h2.cs with h2 | h2 | h2 | h2 | h2
 all_goals first
  | omega
  | (have := fa h1; omega)
  | (have := fb h1; omega)
  | (have := fa h2; omega)
  | (have := fb h2; omega)
  | exact h1.inj' h2
  | exact absurd h2.r (fun h2 => by have := h1.r.sib h2; omega)
def letN (pos : Int) (s : ByteArray) : Node := ⟨7, pos, 0, s, [], []⟩
def letH (v u z a b : Nat) (pos : Int) (s : ByteArray) (vs : Nat → Nat) (x y : Tr) : Hp := (82, (⟨v, false, 100, 6, [.agg [.int .i64 7, .int .i64 pos, .int .i64 0, .str s, .row 80 u 2, .row 83 z 0]]⟩ : Box)) :: (80, ⟨u, false, 54, 1, [.ptr a (vs a) 0 0, .ptr b (vs b) 0 0]⟩) :: (83, ⟨z, false, 88, 1, []⟩) :: (oh a vs x ++ oh b vs y)
def ChoPost (T : Tr) (r : AV) (hp' : Hp) : Prop := (∃ q vs, r = ov q vs T ∧ hp' = oh q vs T) ∨ ∃ (v u z a b : Nat) (pos : Int) (s : ByteArray) (vs : Nat → Nat) (x y : Tr), 10000 ≤ a ∧ 10000 ≤ b ∧ (∀ k, InT a k → ¬ InT b k) ∧ T = Tr.mk (letN pos s) [x, y] ∧ r = .ptr 82 v 0 0 ∧ hp' = letH v u z a b pos s vs x y
set_option maxHeartbeats 2000000 in
theorem choPost_goes {T : Tr} {r : AV} {hp' : Hp} (nm : Nat) (h : ChoPost T r hp') : Goes ⟨[(0, r)], hp'⟩ fun s => ToPost nm T (fget s.fr 0) s.hp := by
 rcases h with ⟨q, vs, rfl, rfl⟩ | ⟨v, u, z, a, b, pos, s, vs, x, y, ha, hb, hab, rfl, rfl, rfl⟩
 ·refine Goes.renO 0 q nm T rfl (OVal.self _ _ _) fun N => ?_
  exact Goes.le (t := ⟨[(0, ov nm (fun _ => N) T)], oh nm (fun _ => N) T⟩) ⟨fun _ => N, rfl, rfl⟩ (by simp [frLe, fget]) (hpLe_l (OVal.self _ _ _))
 ·obtain ⟨va, hva⟩ : ∃ va : Nat → Nat, va = fun q => if q = 82 then v else if q = 80 then u else if q = 83 then z else vs q := ⟨_, rfl⟩
  have v1 : va 82 = v := by rw [hva]; rfl
  have v2 : va 80 = u := by rw [hva]; rfl
  have v3 : va 83 = z := by rw [hva]; rfl
  have v4 : ∀ q, 10000 ≤ q → vs q = va q := fun q hq => by rw [hva]; dsimp only; rw [if_neg (by omega), if_neg (by omega), if_neg (by omega)]
  have hxy : hpLe (oh a vs x ++ oh b vs y) (oh a vs x ++ oh b vs y) := self2 (OVal.self _ _ _) (OVal.self _ _ _) fun p hp q hq e => hab _ (OVal.inh hq) (e ▸ OVal.inh hp)
  have hge : ∀ p ∈ oh a vs x ++ oh b vs y, 10000 ≤ p.1 := fun p hp => by
   rcases List.mem_append.1 hp with h | h
   ·have := (OVal.inh h).le; omega
   ·have := (OVal.inh h).le; omega
  have hself : hpLe (letH v u z a b pos s vs x y) (letH v u z a b pos s vs x y) := by
   refine ⟨hg_eq, ?_, ?_, ?_⟩
   ·exact (hg_ne (by decide)).trans hg_eq
   ·exact (hg_ne (by decide)).trans ((hg_ne (by decide)).trans hg_eq)
   ·exact hpLe_c (hpLe_c (hpLe_c hxy (fun p hp e => by have := hge p hp; omega)) (fun p hp e => by have := hge p hp; omega)) (fun p hp e => by have := hge p hp; omega)
  refine Goes.renG (LetR nm a b) va (LetR.inj ha hb hab) LetR.inj' (82 :: 80 :: 83 :: (on a x ++ on b y)) (letH v u z a b pos s vs x y) (fun N => oh nm (fun _ => N) (Tr.mk (letN pos s) [x, y])) (fun N => (0, .ptr nm N 0 0) :: [(0, .ptr 82 v 0 0)]) hself (fun p hp => ?_) (fun N p' hp' => ⟨(OVal.free nm _ _ p' hp').1, ?_⟩) (fun N S w μ μ' f hμ hle hf => ?_) fun N => ?_
  ·simp only [letH, List.mem_cons, List.mem_append] at hp
   rcases hp with rfl | rfl | rfl | h | h
   ·exact ⟨by simp, rfl⟩
   ·exact ⟨by simp, rfl⟩
   ·exact ⟨by simp, rfl⟩
   ·have h2 : p.1 ∈ on a x := by rw [← OVal.names a vs x]; exact List.mem_map_of_mem h
    exact ⟨by simp [h2], (OVal.free _ _ _ p h).1⟩
   ·have h2 : p.1 ∈ on b y := by rw [← OVal.names b vs y]; exact List.mem_map_of_mem h
    exact ⟨by simp [h2], (OVal.free _ _ _ p h).1⟩
  ·rw [oh_Tr, oh_list] at hp'
   rcases List.mem_append.1 hp' with h | h
   ·rcases List.mem_append.1 h with h | h
    ·simp only [ohL, List.append_nil, List.mem_append, Nat.zero_add] at h
     rcases h with h | h
     ·obtain ⟨p, hp, h1, h2, h3, h4, h5, h6, h7⟩ := ORn.bx a (sub (sub nm 0) 0) N vs x p' h
      exact ⟨p, by simp [letH, hp], .fst h1, h2.trans (v4 _ (by have := h1.l.le; omega)), h3, h4, h5, h6, fun i e' he => let ⟨e, q1, q2⟩ := h7 i e' he; ⟨e, q1, q2.mono fun k k' h => ⟨.fst h, v4 _ (by have := h.l.le; omega)⟩⟩⟩
     ·obtain ⟨p, hp, h1, h2, h3, h4, h5, h6, h7⟩ := ORn.bx b (sub (sub nm 0) 1) N vs y p' h
      exact ⟨p, by simp [letH, hp], .snd h1, h2.trans (v4 _ (by have := h1.l.le; omega)), h3, h4, h5, h6, fun i e' he => let ⟨e, q1, q2⟩ := h7 i e' he; ⟨e, q1, q2.mono fun k k' h => ⟨.snd h, v4 _ (by have := h.l.le; omega)⟩⟩⟩
    ·rw [List.mem_singleton.1 h]
     refine ⟨(80, ⟨u, false, 54, 1, [.ptr a (vs a) 0 0, .ptr b (vs b) 0 0]⟩), by simp [letH], .row, v2.symm, rfl, rfl, rfl, rfl, fun i e' he => ?_⟩
     rw [v4 a ha, v4 b hb]
     simp only [lbox, ovL, ov_Tr, Nat.zero_add] at he ⊢
     match i, he with
     | 0, he => simp at he; subst he; exact ⟨_, rfl, .cons (.ptr a _ 0 0 (.fst .root)) .nil⟩
     | 1, he => simp at he; subst he; exact ⟨_, rfl, .cons (.ptr b _ 0 0 (.snd .root)) .nil⟩
     | i + 2, he => simp at he
   ·rcases List.mem_append.1 h with h | h
    ·have h2 : oh (sub nm 1) (fun _ => N) (letN pos s).pats = [(sub nm 1, lbox (sub nm 1) (fun _ => N) ([] : List Pat))] := by rw [show (letN pos s).pats = [] from rfl, oh_list]; rfl
     rw [h2] at h
     rw [List.mem_singleton.1 h]
     exact ⟨(83, ⟨z, false, 88, 1, []⟩), by simp [letH], .pats, v3.symm, rfl, rfl, rfl, rfl, fun i e' he => by simp [lbox, ovL] at he⟩
    ·rw [List.mem_singleton.1 h]
     refine ⟨(82, ⟨v, false, 100, 6, [.agg [.int .i64 7, .int .i64 pos, .int .i64 0, .str s, .row 80 u 2, .row 83 z 0]]⟩), by simp [letH], .root, v1.symm, rfl, rfl, rfl, rfl, fun i e' he => ?_⟩
     rw [← v2, ← v3]
     match i, he with
     | 0, he => simp at he; subst he; exact ⟨_, rfl, .cons (.scal _ rfl) (.cons (.scal _ rfl) (.cons (.scal _ rfl) (.cons (.scal _ rfl) (.cons (.row 80 _ _ .row) (.cons (.row 83 _ _ .pats) .nil)))))⟩
     | i + 1, he => simp at he
  ·refine fr_put (fun t => (hf t).mono (fun _ h => h) (Av.Same.refl _ _) hle) ?_
   have hv := hf 0
   have hc : CellsG (LetR nm a b) va N (AV.ptr 82 v 0 0).cells (AV.ptr nm N 0 0).cells := .cons (v1 ▸ .ptr 82 nm 0 0 .root) .nil
   exact vr_cells (x := .ptr 82 v 0 0) (x' := .ptr nm N 0 0) rfl hc hμ hv
  ·exact Goes.le (t := ⟨[(0, .ptr nm N 0 0)], oh nm (fun _ => N) (Tr.mk (letN pos s) [x, y])⟩) ⟨fun _ => N, by rw [ov_Tr]; rfl, rfl⟩ (by simp [frLe, fget]) (hpLe_l (OVal.self _ _ _))
end Go.Proofs.YtmlckdffkbbbhaaGreat

namespace Go.Proofs.YtmlckdffkbbbhaaGreat
open Go.RowKit Go.Proofs.YtmlckdffkbbbhaaGreat.Av Go.Proofs.YtmlckdffkbbbhaaGreat.Ml
open Go.Proofs.YtmlckdffkbbbhaaGreat.Av.AVal (av)
open OVal (ov oh on)

def hitsN (x : PNode) (a : Node) : Bool :=
 if x.kind = 1 ∨ x.kind = 2 then true
 else if x.kind = 3 then decide (a.kind = 1) && decide (a.n = x.n)
 else if x.kind = 6 then decide (a.kind = 12)
 else if x.kind = 4 then decide (a.kind = 4) && decide (a.s = x.s) && decide (x.kids.length = 0)
 else false
theorem hitsB_N (q : Pat) (a : Node) : hitsB q a = hitsN (q.nodes.getD 0 default) a := rfl
theorem firstF_some {a : Node} : ∀ {l : List Pat} {j : Nat} (h : j < l.length), (∀ k (hk : k < j), hitsB (l[k]'(by omega)) a = false) → hitsB l[j] a = true → firstF a l = some j
 | q :: l, 0, h, h1, h2 => by rw [firstF, if_pos (show hitsB q a = true from h2)]
 | q :: l, j + 1, h, h1, h2 => by
  have h0 := h1 0 (by omega)
  rw [List.getElem_cons_zero] at h0
  rw [firstF, if_neg (by rw [h0]; simp), firstF_some (l := l) (j := j) (by simpa using h) (fun k hk => by have := h1 (k + 1) (by omega); simpa using this) (by simpa using h2)]
  rfl
theorem firstF_none {a : Node} : ∀ {l : List Pat}, (∀ k (hk : k < l.length), hitsB l[k] a = false) → firstF a l = none
 | [], h => rfl
 | q :: l, h => by
  have h0 := h 0 (by simp)
  rw [List.getElem_cons_zero] at h0
  rw [firstF, if_neg (by rw [h0]; simp), firstF_none (l := l) (fun k hk => by have := h (k + 1) (by simpa using hk); simpa using this)]
  rfl
theorem takes_ok (x : PNode) (n : Node) (ks : List Tr) (hl : x.kids.length ≤ 1048576) : CallsF Tryz.prog 75 [av x, av (Tr.mk n ks)] (.bool (hitsN x n)) := by
 refine fun_impl_takes rfl (by simp; exact ⟨AVal.clean _, AVal.clean _⟩) (AvPure.bool _) ?_
 simp +contextual -dsimp (maxSteps := 2000000) only [↓SD, SU, SB, simprocAttr, ir_impl_takes, rs_impl_takes, av_Tr, av_PNode, map_len]
 (repeat' (first | intro _ | refine And.intro ?_ ?_))
 all_goals first | omega | (simp [hitsN, *]; done) | (simp [hitsN, *]; omega) | trace_state
theorem elem_of {α : Type} [AVal α] [OVal α] {K : Nat} {vs : Nat → Nat} {l : List α} {H : Hp} (h : hpLe H (oh K vs l)) (k : Nat) (hk : k < l.length) : hpLe H (oh (sub K k) vs l[k]) := by
 rw [oh_list, hpLe_app] at h
 exact hpLe_iff.2 fun p hp => hpLe_iff.1 h.1 p (mem_ohL k hk (by rw [Nat.zero_add]; exact hp))
theorem low4 {β : Type} [AVal β] [OVal β] {a : Nat} {vs : Nat → Nat} {z : β} {H : Hp} {b1 b2 b3 b4 : Box} (ha : 10000 ≤ a) (h : hpLe H (oh a vs z)) : hpLe ((5, b1) :: (5, b2) :: (4, b3) :: (4, b4) :: H) (oh a vs z) :=
 hpLe_skip (fun h => by have := h.le; omega) (hpLe_skip (fun h => by have := h.le; omega) (hpLe_skip (fun h => by have := h.le; omega) (hpLe_skip (fun h => by have := h.le; omega) h)))
set_option maxHeartbeats 4000000 in
theorem chosen_ok : ∀ t : Tr, t.rk → t.size ≤ 600 → ∀ nm, 10000 ≤ nm → ∀ vs, CallsH Tryz.prog 37 [ov nm vs t] (oh nm vs t) (ToPost nm (chosenR t)) := by
 rintro ⟨n, ks⟩ hrk hsz nm hnm vs
 rw [Tr.rk] at hrk
 rw [Tr.size] at hsz
 have hkl := sizes_len ks
 obtain ⟨K, hK⟩ : ∃ K, K = sub nm 0 := ⟨_, rfl⟩
 obtain ⟨P, hP⟩ : ∃ P, P = sub nm 1 := ⟨_, rfl⟩
 have hKm : K ≠ nm := by rw [hK]; exact fun e => (InT.root (nm := sub nm 0)).ne e
 obtain ⟨H0, hH0⟩ : ∃ H0, H0 = oh nm vs (Tr.mk n ks) := ⟨_, rfl⟩
 have hs0 : hpLe H0 (oh nm vs (Tr.mk n ks)) := by rw [hH0]; exact OVal.self _ _ _
 obtain ⟨q1, q2, q3, q4⟩ := tr_parts hs0
 rw [← hK, ← hP] at q1
 rw [← hK] at q2 q3
 rw [← hP] at q4
 rw [← hH0]
 refine callsH_goes (Post := ChoPost (chosenR (.mk n ks))) (funH_impl_chosen_H rfl ?_) (fun r hp' h => choPost_goes nm h)
 by_cases h13 : n.kind = 13
 case neg =>
  have E13 := eq_false h13
  have e : chosenR (.mk n ks) = .mk n ks := by rw [chosenR, if_neg (fun h => h13 h.1)]
  rw [e]
  simp +contextual -dsimp (maxSteps := 2000000) only [↓SD, SU, SB, simprocAttr, ir_impl_chosen_H, rs_impl_chosen_H, ov_Tr, q1, q2, exB, E13]
  refine Goes.post (oh nm vs (Tr.mk n ks)) ?_
  simp +contextual -dsimp (maxSteps := 2000000) only [↓SD, SU, SB, simprocAttr, ov_Tr, q1, false_and]
  exact ⟨hs0, .inl ⟨nm, vs, by rw [ov_Tr], rfl⟩⟩
 have E13 := eq_true h13
 have hl := hrk.1.2.2.1 h13
 have hl0 : 0 < ks.length := by omega
 have hl1 : (0 : Int) < (ks.length : Int) := by omega
 have r0 := rks_iff.1 hrk.2 _ (List.getElem_mem hl0)
 have s0 := sizes_mem (List.getElem_mem hl0)
 have p0 : hpLe H0 (oh (sub K 0) vs ks[0]) := q3 0 hl0
 have e0 := ovL_get K vs ks hl0 .top
 rw [ov_Tr] at e0
 have hel : (ovL K vs 0 ks).length = ks.length := ovL_len _ _ _ _
 have hgk : ∀ i (h : i < ks.length), ks.getD i (.mk default []) = ks[i] := fun i h => by simp [List.getD_eq_getElem?_getD, h]
 have C := isPlainT_ok ks[0] (by omega)
 have hlend := lend1e (ov_Tr (sub K 0) vs ks[0]).symm p0
 rw [chosenR, hgk 0 hl0]
 cases hp : plainT ks[0] with
 | false =>
  rw [hp] at C
  rw [if_neg (fun h => by cases h.2.1)]
  obtain ⟨es0, b0⟩ := tr_root p0
  obtain ⟨E, hE⟩ : ∃ E, E = ovL K vs 0 ks := ⟨_, rfl⟩
  rw [← hE] at q2 e0 hel
  simp +contextual -dsimp (maxSteps := 2000000) only [↓SD, SU, SB, simprocAttr, ir_impl_chosen_H, rs_impl_chosen_H, ov_Tr, q1, q2, exB, E13, b0, e0, hel, hl0, hl1, false_and]
  refine aCallL_of (on (sub K 0) ks[0]) C rfl (map_cons_eq hlend rfl) ?_
  simp +contextual -dsimp (maxSteps := 2000000) only [↓SD, SU, SB, simprocAttr, q1]
  refine Goes.post (oh nm vs (Tr.mk n ks)) ?_
  simp +contextual -dsimp (maxSteps := 2000000) only [↓SD, SU, SB, simprocAttr, ov_Tr, q1, false_and]
  exact ⟨hs0, .inl ⟨nm, vs, by rw [ov_Tr], rfl⟩⟩
 | true =>
  rw [hp] at C
  obtain ⟨m0, m1, m2⟩ := plain_mk r0 hp
  have p0' := p0
  rw [m0] at p0'
  obtain ⟨b0, -, -, -⟩ := tr_parts p0'
  obtain ⟨m, hm⟩ : ∃ m, m = ks[0].hd := ⟨_, rfl⟩
  rw [← hm] at m0 m1 m2 b0 ⊢
  by_cases h2 : m.kind = 2
  ·have E2 := eq_true h2
   rw [if_neg (fun h => h.2.2 h2)]
   obtain ⟨E, hE⟩ : ∃ E, E = ovL K vs 0 ks := ⟨_, rfl⟩
   rw [← hE] at q2 e0 hel
   simp +contextual -dsimp (maxSteps := 2000000) only [↓SD, SU, SB, simprocAttr, ir_impl_chosen_H, rs_impl_chosen_H, ov_Tr, q1, q2, exB, E13, b0, e0, hel, hl0, hl1, false_and]
   refine aCallL_of (on (sub K 0) ks[0]) C rfl (map_cons_eq hlend rfl) ?_
   simp +contextual -dsimp (maxSteps := 2000000) only [↓SD, SU, SB, simprocAttr, q1, q2, exB, e0, hel, hl0, hl1, b0, E2, false_and]
   refine Goes.post (oh nm vs (Tr.mk n ks)) ?_
   simp +contextual -dsimp (maxSteps := 2000000) only [↓SD, SU, SB, simprocAttr, ov_Tr, q1, false_and]
   exact ⟨hs0, .inl ⟨nm, vs, by rw [ov_Tr], rfl⟩⟩
  have E2 := eq_false h2
  rw [if_pos ⟨h13, rfl, h2⟩]
  obtain ⟨E, hE⟩ : ∃ E, E = ovL K vs 0 ks := ⟨_, rfl⟩
  rw [← hE] at q2 e0 hel
  simp +contextual -dsimp (maxSteps := 2000000) only [↓SD, SU, SB, simprocAttr, ir_impl_chosen_H, rs_impl_chosen_H, ov_Tr, q1, q2, exB, E13, b0, e0, hel, hl0, hl1, false_and]
  refine aCallL_of (on (sub K 0) ks[0]) C rfl (map_cons_eq hlend rfl) ?_
  simp +contextual -dsimp (maxSteps := 2000000) only [↓SD, SU, SB, simprocAttr, q1, q2, exB, e0, hel, hl0, hl1, b0, E2, false_and]
  refine aLoop_of (X := Nat) (fun j => ⟨[(0, .ptr nm (vs nm) 0 0), (37, .row P (vs P) n.pats.length), (38, .int .i64 n.pats.length), (39, .int .i64 j)], oh nm vs (Tr.mk n ks)⟩) (fun j => j ≤ n.pats.length ∧ ∀ k (hk : k < n.pats.length), k < j → hitsB n.pats[k] m = false) (fun j => n.pats.length - j) 0 ⟨Nat.zero_le _, fun k hk h => by omega⟩ (by simp +contextual -dsimp only [↓SD, SU, SB, simprocAttr]) (by exact hs0) ?_
  rintro j ⟨hj, hjf⟩
  try dsimp only at hj hjf ⊢
  rw [← hH0]
  by_cases hlt : j < n.pats.length
  ·have rP : hget H0 P = some ⟨vs P, false, 88, 1, ovL P vs 0 n.pats⟩ := hpLe_root q4
   have eP := ovL_get P vs n.pats hlt .top
   have elP : (ovL P vs 0 n.pats).length = n.pats.length := ovL_len _ _ _ _
   have pq := elem_of q4 j hlt
   have hne := hrk.1.2.2.2.2.1 _ (List.getElem_mem hlt)
   have hxB := hitsB_N n.pats[j] m
   have hbj := bulk_mem (List.getElem_mem hlt)
   obtain ⟨Q, hQ⟩ : ∃ Q, Q = sub P j := ⟨_, rfl⟩
   obtain ⟨⟨l⟩, hq⟩ : ∃ q, q = n.pats[j] := ⟨_, rfl⟩
   rw [← hq] at eP pq hne hxB hbj
   rw [← hQ] at eP pq
   dsimp only at hne hxB
   rw [ov_Pat] at eP
   rw [oh_Pat] at pq
   dsimp only at eP pq
   have hl2 : 0 < l.length := List.length_pos_iff.2 hne
   have hl3 : (0 : Int) < (l.length : Int) := by omega
   obtain ⟨M, hM⟩ : ∃ M, M = sub Q 0 := ⟨_, rfl⟩
   rw [← hM] at eP pq
   have rM : hget H0 M = some ⟨vs M, false, 90, 4, ovL M vs 0 l⟩ := hpLe_root pq
   have eM := ovL_get M vs l hl2 .top
   have elM : (ovL M vs 0 l).length = l.length := ovL_len _ _ _ _
   have px := elem_of pq 0 hl2
   have hgx : l.getD 0 default = l[0] := by simp [List.getD_eq_getElem?_getD, hl2]
   rw [hgx] at hxB
   have hbx := bulk_mem (List.getElem_mem hl2)
   obtain ⟨xN, hxN⟩ : ∃ xN, xN = sub M 0 := ⟨_, rfl⟩
   rw [← hxN] at eM px
   generalize hx : l[0] = x at *
   rw [ov_PNode] at eM
   have px2 := px
   rw [oh_PNode] at px2
   have rX : hget H0 (sub xN 0) = some ⟨vs (sub xN 0), false, 3, 1, ovL (sub xN 0) vs 0 x.kids⟩ := hpLe_root px2
   have gM : ∀ q, q < 10000 → (q == M) = false ∧ (q = M) = False ∧ (M = q) = False := fun q hq => by
    have : 10000 ≤ M := by rw [hM]; exact sub_ge _ _
    exact ⟨beq_eq_false_iff_ne.2 (by omega), eq_false (by omega), eq_false (by omega)⟩
   have gn : ∀ q, q < 10000 → (q == nm) = false ∧ (q = nm) = False ∧ (nm = q) = False := fun q hq => ⟨beq_eq_false_iff_ne.2 (by omega), eq_false (by omega), eq_false (by omega)⟩
   have gK : ∀ q, q < 10000 → (q == K) = false ∧ (q = K) = False ∧ (K = q) = False := fun q hq => by
    have : 10000 ≤ K := by rw [hK]; exact sub_ge _ _
    exact ⟨beq_eq_false_iff_ne.2 (by omega), eq_false (by omega), eq_false (by omega)⟩
   simp +contextual -dsimp (maxSteps := 2000000) only [↓SD, SU, SB, simprocAttr, hlt, rP, eP, elP, rM, eM, elM, hl2, hl3, q1, q2, exB, e0, hel, hl0, hl1, b0, rX, gM, gn, gK, low_beq, false_and]
   intro v4 v5
   have hxl : x.kids.length ≤ 1048576 := by
    have b1 : Bulk.bulk x = Bulk.bulk x.kind + Bulk.bulk x.n + Bulk.bulk x.s + Bulk.bulk x.kids + 1 := rfl
    have b2 := bulk_length x.kids
    have b3 : Bulk.bulk (⟨l⟩ : Pat) = Bulk.bulk l + 1 := rfl
    have b4 : Bulk.bulk n = Bulk.bulk n.kind + Bulk.bulk n.pos + Bulk.bulk n.n + Bulk.bulk n.s + Bulk.bulk n.kids + Bulk.bulk n.pats + 1 := rfl
    have b5 := hrk.1.2.2.2.2.2.2
    omega
   have C2 := takes_ok x m [] hxl
   rw [← m0] at C2
   have hdx : ∀ k, InT xN k → ¬ InT (sub K 0) k := fun k h1 h2 => by
    rw [hxN] at h1
    have h1 := h1.up
    rw [hM] at h1
    have h1 := h1.up
    rw [hQ] at h1
    have h1 := h1.up
    have h2 := h2.up
    rw [hP] at h1
    rw [hK] at h2
    exact sib_ne (i := 1) (j := 0) (by omega) h1 h2
   have hgx2 : 10000 ≤ xN := by rw [hxN]; exact sub_ge _ _
   refine aCallL_of (on xN x ++ on (sub K 0) ks[0]) C2 rfl (map_cons_eq (lend2a (n0 := xN) (v0 := vs) (y0 := x) (low4 hgx2 px) hdx) (map_cons_eq (lend2b (n1 := sub K 0) (v1 := vs) (y1 := ks[0]) (low4 (sub_ge _ _) p0) fun k h1 h2 => hdx k h2 h1) rfl)) ?_
   have hpn : hget H0 nm = some _ := q1
   cases hh : hitsN x m with
   | false =>
    rw [hh] at hxB
    simp +contextual -dsimp (maxSteps := 2000000) only [↓SD, SU, SB, simprocAttr]
    refine ⟨by omega, Goes.le ⟨j + 1, ⟨⟨hlt, fun k hk hkj => ?_⟩, (by first | omega | (simp only; omega))⟩, rfl⟩ (by simp +contextual -dsimp only [↓SD, SU, SB, simprocAttr, Int.natCast_add]) (by show hpLe _ H0; rw [hH0]; exact low4 hnm (OVal.self _ _ _))⟩
    rcases Nat.lt_or_ge k j with h | h
    ·exact hjf k hk h
    ·obtain rfl : k = j := by omega
     rw [← hq]; exact hxB
   | true =>
    rw [hh] at hxB
    have hgp : n.pats.getD j default = ⟨l⟩ := by rw [hq]; simp [List.getD_eq_getElem?_getD, hlt]
    rw [firstF_some hlt (fun k hk => hjf k (by omega) hk) (by rw [← hq]; exact hxB)]
    dsimp only
    rw [hgp, hgx]
    have hj4 : j + 1 < ks.length := by omega
    have hj0 : -9223372036854775808 ≤ (j : Int) + 1 := by omega
    have hj1 : (j : Int) + 1 ≤ 9223372036854775807 := by omega
    have hj2 : 0 ≤ (j : Int) + 1 := by omega
    have hj3 : (j : Int) + 1 < (ks.length : Int) := by omega
    have hjn : ((j : Int) + 1).toNat = j + 1 := by omega
    have e2 := ovL_get K vs ks hj4 .top
    rw [ov_Tr, ← hE] at e2
    have p1 := q3 (j + 1) hj4
    rw [hgk (j + 1) hj4]
    by_cases hx2 : x.kind = 2
    ·have E2 := eq_true hx2
     rw [if_pos hx2]
     simp +contextual -dsimp (maxSteps := 2000000) only [↓SD, SU, SB, simprocAttr, E2, q1, q2, exB, e0, e2, hj0, hj1, hj2, hj3, hj4, hjn, hel, hl0, hl1, b0, gM, gn, gK, low_beq, false_and]
     have hdk : ∀ k, InT (sub K 0) k → ¬ InT (sub K (j + 1)) k := fun k h1 h2 => by have := h1.sib h2; omega
     repeat' apply And.intro
     all_goals
      intro v80 v82
      refine Goes.adoptB 82 0 5 83 88 1 hg_eq rfl Nat.zero_lt_one rfl (by decide) fun z => ?_
      refine Goes.post (letH v82 v80 z (sub K 0) (sub K (j + 1)) n.pos x.s vs ks[0] ks[j + 1]) ?_
      simp +contextual -dsimp (maxSteps := 2000000) only [↓SD, SU, SB, simprocAttr, false_and]
      refine ⟨⟨(hg_ne (by decide)).trans hg_eq, ?_, hg_eq, hpLe_app.2 ⟨?_, ?_⟩⟩, .inr ⟨v82, v80, z, sub K 0, sub K (j + 1), n.pos, x.s, vs, ks[0], ks[j + 1], sub_ge _ _, sub_ge _ _, hdk, rfl, rfl, rfl⟩⟩
      ·rw [hg_ne (by decide), hg_ne (by decide), hg_ne (by decide)]; exact hg_eq
      ·repeat (first | exact p0 | refine hpLe_skip (fun h => by have := h.ge; omega) ?_)
      ·repeat (first | exact p1 | refine hpLe_skip (fun h => by have := h.ge; omega) ?_)
    ·have E2 := eq_false hx2
     rw [if_neg hx2]
     simp +contextual -dsimp (maxSteps := 2000000) only [↓SD, SU, SB, simprocAttr, E2, q1, q2, exB, e0, e2, hj0, hj1, hj2, hj3, hj4, hjn, hel, hl0, hl1, b0, gM, gn, gK, low_beq, false_and]
     refine Goes.post (oh (sub K (j + 1)) vs ks[j + 1]) ?_
     obtain ⟨es1, b1⟩ := tr_root p1
     simp +contextual -dsimp (maxSteps := 2000000) only [↓SD, SU, SB, simprocAttr, b1, low_beq, false_and]
     exact ⟨low4 (sub_ge _ _) p1, .inl ⟨sub K (j + 1), vs, by rw [ov_Tr], rfl⟩⟩
  ·obtain rfl : j = n.pats.length := by omega
   rw [firstF_none (fun k hk => hjf k hk hk)]
   simp +contextual -dsimp (maxSteps := 2000000) only [↓SD, SU, SB, simprocAttr, Nat.lt_irrefl, q1]
   refine Goes.post (oh nm vs (Tr.mk n ks)) ?_
   simp +contextual -dsimp (maxSteps := 2000000) only [↓SD, SU, SB, simprocAttr, ov_Tr, q1, false_and]
   exact ⟨hs0, .inl ⟨nm, vs, by rw [ov_Tr], rfl⟩⟩
end Go.Proofs.YtmlckdffkbbbhaaGreat

namespace Go.Proofs.YtmlckdffkbbbhaaGreat
open Go.RowKit Go.Proofs.YtmlckdffkbbbhaaGreat.Av Go.Proofs.YtmlckdffkbbbhaaGreat.Ml
open Go.Proofs.YtmlckdffkbbbhaaGreat.Av.AVal (av)
open OVal (ov oh on)

set_option maxHeartbeats 4000000 in
theorem implChosen_ok (nm : Nat) (p : Program) (hx : Bulk.bulk p ≤ 1048576) : CallsH Tryz.prog 14 [av p] [] (ToPost nm (rewP chosenR p)) := by
 obtain ⟨q1, q2, q3, q4⟩ := prog_small hx
 have C := implProgramOk_ok p hx
 rw [av_Program] at C
 cases hb : progB p with
 | false =>
  rw [hb] at C
  rw [rewP, if_neg (by rw [hb]; simp)]
  refine callsH_goes (Post := fun r hp' => r = .agg [.nils, .nils] ∧ hp' = []) (funH_impl_Chosen_H rfl ?_) ?_
  case refine_2 =>
   rintro r hp' ⟨rfl, rfl⟩
   refine Goes.newA 0 0 (sub nm 0) 72 3 rfl rfl fun u => ?_
   refine Goes.newA 0 1 (sub nm 1) 45 6 rfl rfl fun v => ?_
   have hne : sub nm 1 ≠ sub nm 0 := fun e => by have := (sub_inj e).2; omega
   refine Goes.le (t := ⟨[(0, .agg [.row (sub nm 0) u 0, .row (sub nm 1) v 0])], [(sub nm 0, ⟨u, false, 72, 3, []⟩), (sub nm 1, ⟨v, false, 45, 6, []⟩)]⟩) ⟨fun q => if q = sub nm 0 then u else v, ?_, ?_⟩ (by simp +contextual -dsimp only [↓SD, SU, SB, simprocAttr]) ⟨?_, hg_eq, trivial⟩
   ·rw [ov_Program, if_pos rfl, if_neg hne]; rfl
   ·rw [oh_Program, oh_list, oh_list, ohL_nil, lbox, lbox, if_pos rfl, if_neg hne]; rfl
   ·rw [hg_ne hne]; exact hg_eq
  simp +contextual -dsimp (maxSteps := 2000000) only [↓SD, SU, SB, simprocAttr, ir_impl_Chosen_H, rs_impl_Chosen_H, av_Program]
  intro v2
  refine aCallK_of _ C ?_
  simp +contextual -dsimp (maxSteps := 2000000) only [↓SD, SU, SB, simprocAttr]
  refine Goes.post [] ?_
  simp +contextual -dsimp (maxSteps := 2000000) only [↓SD, SU, SB, simprocAttr]
 | true =>
  rw [hb] at C
  obtain ⟨h1, h2, h3, h4, h5, h6⟩ := tree_facts hx hb
  obtain ⟨f1, f2, f3, f4, f5⟩ := prog_facts hx hb
  have hk : ∀ i, i < p.nodes.length → ∀ k ∈ nkids p.nodes i, (i : Int) < k ∧ k < p.nodes.length := fun i hi k hk => tree_in f3 hi hk
  obtain ⟨g, hg⟩ : ∃ g, g = sub nm 2 := ⟨_, rfl⟩
  have hgg : 10000 ≤ g := by rw [hg]; exact sub_ge _ _
  have hge2 : ∀ q, q < 10000 → (q == g) = false := fun q hq => beq_eq_false_iff_ne.2 (by omega)
  have hg3 : ¬ InT g 3 := fun h => by have := h.le; omega
  have G := growO_ok p.nodes hk q2 p.nodes.length g 0 (by omega) (by omega)
  rw [show growT p.nodes p.nodes.length 0 = treeAt p.nodes 0 from rfl, show ((0 : Nat) : Int) = 0 from rfl] at G
  have hrk := tree_K hx hb
  have hsz : (treeAt p.nodes 0).size ≤ 600 := by have := h4; omega
  have hR := rewT_rk (R := chosenR) (fun t h => chosenR_rk h) _ hrk
  have RW := rewrite_ok chosenR 37 (fun t h => chosenR_rk h) chosen_ok _ hrk hsz g hgg
  have PO := programOfO_ok nm p.types (rewT chosenR (treeAt p.nodes 0)) (rk_ok _ hR.1) (by omega) q1
  have hlen := layT_len (rewT chosenR (treeAt p.nodes 0)) 0
  rw [rewP, if_pos hb]
  refine funH_impl_Chosen_H rfl ?_
  have hle : (layT 0 (rewT chosenR (treeAt p.nodes 0))).length ≤ 600 := by omega
  clear hlen
  have hlt : ¬ (600 < ((layT 0 (rewT chosenR (treeAt p.nodes 0))).length : Int)) := by omega
  generalize layT 0 (rewT chosenR (treeAt p.nodes 0)) = L at *
  generalize rewT chosenR (treeAt p.nodes 0) = T' at *
  generalize treeAt p.nodes 0 = T at *
  simp +contextual -dsimp (maxSteps := 2000000) only [↓SD, SU, SB, simprocAttr, ir_impl_Chosen_H, rs_impl_Chosen_H, av_Program]
  intro v2
  refine aCallK_of _ C ?_
  simp +contextual -dsimp (maxSteps := 2000000) only [↓SD, SU, SB, simprocAttr]
  refine aCallH_gen [] G (by simp +contextual -dsimp only [↓SD, SU, SB, simprocAttr]) ?_
  rintro r hp' ⟨vs, rfl, rfl⟩ H hH
  rw [hrest_no] at hH
  have o1 := old_ge hgg hH
  have l1 : hpLe H (oh g vs T) := by rw [hH]; exact hpLe_l (OVal.self _ _ _)
  have h2a : hget H 2 = some (⟨v2, false, 30, 2, [.agg [.nils, .nils]]⟩ : Box) := (o1 2 (by omega)).trans (by simp [hget])
  obtain ⟨es0, b0⟩ := tr_root l1
  have RW := RW vs
  rw [ov_Tr] at RW
  simp +contextual -dsimp (maxSteps := 2000000) only [↓SD, SU, SB, simprocAttr, ov_Tr, b0, hge2, false_and]
  refine aCallH_gen (on g T) RW (hsel_on l1) ?_
  rintro r hp2 ⟨v1, rfl, rfl⟩ H2 hH2
  have o2 := old_prt hgg hH2
  have l2 := part_done hH2
  have h2b : hget H2 2 = some (⟨v2, false, 30, 2, [.agg [.nils, .nils]]⟩ : Box) := (o2 2 (by omega)).trans (by simp [hget, h2a])
  obtain ⟨es1, b1⟩ := tr_root l2
  simp +contextual -dsimp (maxSteps := 2000000) only [↓SD, SU, SB, simprocAttr, ov_Tr, b1, hge2, false_and]
  refine aCallHL_gen (on g T') PO (map_cons_eq (by simp +contextual -dsimp only [↓SD, SU, SB, simprocAttr]) (map_cons_eq (lend1e (ov_Tr g v1 T').symm l2) rfl)) ?_
  rintro r hp3 ⟨v4, rfl, rfl⟩
  refine ⟨⟨ov_free _ _ _, oh_hfree _ _ _⟩, ?_⟩
  intro H3 hH3
  have o3 := old_pgm hH3
  have l3 : hpLe H3 (oh nm v4 (⟨p.types, L⟩ : Program)) := by rw [hH3]; exact hpLe_l (OVal.self _ _ _)
  have h2c : hget H3 2 = some (⟨v2, false, 30, 2, [.agg [.nils, .nils]]⟩ : Box) := (o3 2 (by omega)).trans (by simp [hget, h2b])
  have l3' := l3
  rw [oh_Program, hpLe_app] at l3'
  have r0 := hpLe_root l3'.1
  have r1 := hpLe_root l3'.2
  clear o1 o2 o3 l1 l2 b0 b1 hH hH2 hH3 RW
  simp +contextual -dsimp (maxSteps := 2000000) only [↓SD, SU, SB, simprocAttr, ov_Program, h2c, r0, r1, low_beq, false_and]
  refine Goes.post (oh nm v4 (⟨p.types, L⟩ : Program)) ?_
  simp +contextual -dsimp (maxSteps := 2000000) only [↓SD, SU, SB, simprocAttr, r0, r1, low_beq, false_and]
  exact ⟨lowP l3 (by omega), v4, by rw [ov_Program], rfl⟩
end Go.Proofs.YtmlckdffkbbbhaaGreat

namespace Go.Proofs.YtmlckdffkbbbhaaGreat
open Go.RowKit Go.Proofs.YtmlckdffkbbbhaaGreat.Av Go.Proofs.YtmlckdffkbbbhaaGreat.Ml
open Go.Proofs.YtmlckdffkbbbhaaGreat.Av.AVal (av)

theorem l16Hits_ok (q : Pat) (a : Node) (hne : q.nodes ≠ []) (hx : Bulk.bulk q ≤ 1048576) : CallsF Tryz.prog 73 [av q, av a] (.bool (hitsB q a)) := by
 obtain ⟨l⟩ := q
 obtain ⟨x, r, rfl⟩ := List.exists_cons_of_ne_nil hne
 have hxl : x.kids.length ≤ 1048576 := by
  have b0 := bulk_mem (l := x :: r) (List.mem_cons_self)
  have b1 : Bulk.bulk x = Bulk.bulk x.kind + Bulk.bulk x.n + Bulk.bulk x.s + Bulk.bulk x.kids + 1 := rfl
  have b2 := bulk_length x.kids
  have b3 : Bulk.bulk (⟨x :: r⟩ : Pat) = Bulk.bulk (x :: r) + 1 := rfl
  omega
 show CallsF Tryz.prog 73 [av (⟨x :: r⟩ : Pat), av a] (.bool (hitsN x a))
 have hl0 : 0 < (x :: r).length := by simp
 have hl1 : (0 : Int) < ((x :: r).length : Int) := by omega
 have e0 := getD_map av (x :: r) 0 .top hl0
 rw [List.getElem_cons_zero] at e0
 refine fun_spec_l16Hits rfl (by simp; exact ⟨AVal.clean _, AVal.clean _⟩) (AvPure.bool _) ?_
 rw [av_Pat]
 dsimp only
 generalize x :: r = l at *
 simp +contextual -dsimp (maxSteps := 2000000) only [↓SD, SU, SB, simprocAttr, ir_spec_l16Hits, rs_spec_l16Hits, av_Node, av_PNode, map_len, e0, hl0, hl1]
 have hs : (a.s = x.s) = (x.s = a.s) := propext eq_comm
 have hn : (a.n = x.n) = (x.n = a.n) := propext eq_comm
 clear e0 hl0 hl1 hx hne
 (repeat' (first | intro _ | refine And.intro ?_ ?_))
 all_goals first | omega | (simp [hitsN, hs, hn, *]; done) | (simp [hitsN, hs, hn, *]; omega) | trace_state
theorem l03One_ok (k pos : Int) (s : ByteArray) (ks : List Sub) : CallsF Tryz.prog 74 [.int .i64 k, .int .i64 pos, .str s, .sl (ks.map av)] (.agg [.int .i64 k, .int .i64 pos, .int .i64 0, .str s, .sl [], .sl [], .sl (ks.map av)]) := by
 refine callsF_weaker (r := .agg [.int .i64 k, .int .i64 pos, .int .i64 0, .str s, .nils, .nils, .sl (ks.map av)]) (fun_spec_l03One rfl (by simp; first | exact ⟨pint _, pint _, AvPure.str _, lav_clean _⟩ | exact lav_clean _) (AvPure.agg (by simp; exact ⟨pint _, pint _, pint _, AvPure.str _, AvPure.nils, lav_clean _⟩)) ?_) (fun S w v h => by
  have h1 := Av.VR.aggSet (off := 4) (y := .sl []) h rfl (fun x u hx hu => by cases hx; cases hu; exact .sl0 none 0 (Nat.zero_le _))
  exact Av.VR.aggSet (off := 5) (y := .sl []) h1 rfl (fun x u hx hu => by cases hx; cases hu; exact .sl0 none 0 (Nat.zero_le _)))
 simp +contextual -dsimp (maxSteps := 2000000) only [↓SD, SU, SB, simprocAttr, ir_spec_l03One, rs_spec_l03One, map_nop]
set_option maxHeartbeats 4000000 in
theorem l16Chosen_ok : ∀ t : Tr, t.rk → t.size ≤ 600 → CallsF Tryz.prog 36 [av (Sub.mk t)] (av (Sub.mk (rewT chosenR t))) := by
 refine Tr.ind fun n ks ih hrk hsz => ?_
 refine fun_spec_l16Chosen rfl (by simp; exact AVal.clean _) (AVal.clean _) ?_
 rw [Tr.rk] at hrk
 rw [Tr.size] at hsz
 have hkl := sizes_len ks
 have hkm : ((ks.map Sub.mk).map (av : Sub → AV)).length = ks.length := by simp
 have hall := fun k hk => rewT_rk (R := chosenR) (fun t h => chosenR_rk h) k (rks_iff.1 hrk.2 k hk)
 simp +contextual -dsimp (maxSteps := 2000000) only [↓SD, SU, SB, simprocAttr, ir_spec_l16Chosen, rs_spec_l16Chosen, av_Sub, hkm]
 intro v2 v3
 refine aLoop_goes (X := Nat × Nat) (fun x => ⟨[(1, .obj [.int .i64 n.kind, .int .i64 n.pos, .int .i64 n.n, .str n.s, .sl (n.kids.map av), .sl (n.pats.map av), .sl ((ks.map Sub.mk).map av)]), (2, .ptr 2 v2 0 0), (3, .ptr 3 v3 0 0), (13, .int .i64 ks.length), (14, .int .i64 x.1)], [(2, ⟨v2, false, 48, 7, [.agg [.int .i64 0, .int .i64 0, .int .i64 0, .str (bs []), .nils, .nils, .nils]]⟩), (3, ⟨v3, false, 48, 7, [.agg [.int .i64 n.kind, .int .i64 n.pos, .int .i64 n.n, .str n.s, .sl (n.kids.map av), .sl (n.pats.map av), .row 26 x.2 x.1]]⟩), (26, ⟨x.2, false, 48, 7, (((ks.take x.1).map (rewT chosenR)).map Sub.mk).map av⟩)]⟩) (fun x => x.1 ≤ ks.length) (fun x => ks.length - x.1) ?_ ?_
 ·refine Goes.adoptB 3 0 6 26 48 7 rfl rfl Nat.zero_lt_one rfl (by decide) fun z => ?_
  exact Goes.le ⟨(0, z), Nat.zero_le _, rfl⟩ (by simp +contextual -dsimp only [↓SD, SU, SB, simprocAttr]) (by simp +contextual -dsimp only [↓SD, SU, SB, simprocAttr, List.take_zero, List.map_nil])
 rintro ⟨j, z⟩ hj
 dsimp only at hj ⊢
 by_cases hlt : j < ks.length
 ·have hlt3 : j < (ks.map Sub.mk).length := by rw [List.length_map]; exact hlt
  have e1 := getD_map av (ks.map Sub.mk) j .top hlt3
  rw [List.getElem_map] at e1
  have hm := List.getElem_mem hlt
  have hkr := rks_iff.1 hrk.2 _ hm
  have hks := sizes_mem hm
  have CR := ih ks[j] hm hkr (by omega)
  have hS : (((ks.take (j + 1)).map (rewT chosenR)).map Sub.mk).map (av : Sub → AV) = (((ks.take j).map (rewT chosenR)).map Sub.mk).map av ++ [av (Sub.mk (rewT chosenR ks[j]))] := by
   rw [List.take_succ_eq_append_getElem hlt, List.map_append, List.map_append, List.map_append]; rfl
  have hSl : ((((ks.take j).map (rewT chosenR)).map Sub.mk).map (av : Sub → AV)).length = j := by simp; omega
  generalize (((ks.take j).map (rewT chosenR)).map Sub.mk).map (av : Sub → AV) = SS at *
  generalize rewT chosenR ks[j] = t' at *
  generalize ks[j] = t at *
  have hSt : List.take j SS = SS := List.take_of_length_le (by omega)
  simp +contextual -dsimp (maxSteps := 2000000) only [↓SD, SU, SB, simprocAttr, hlt, hkm, e1, sub_len, sub_agg, sub_pur, sub_purA, sub_ok]
  refine aCallK_of _ CR ?_
  simp +contextual -dsimp (maxSteps := 2000000) only [↓SD, SU, SB, simprocAttr, sub_len, sub_agg, sub_pur, sub_purA, sub_ok, elem1_ok, hSl, hSt]
  refine ⟨⟨by omega, by unfold maxLen; omega⟩, fun z' => ⟨by omega, Goes.le ⟨(j + 1, z'), ⟨hlt, (by first | omega | (simp only; omega))⟩, rfl⟩ (by simp +contextual -dsimp only [↓SD, SU, SB, simprocAttr, Int.natCast_add]) (by simp +contextual -dsimp only [↓SD, SU, SB, simprocAttr, hS])⟩⟩
 ·obtain rfl : j = ks.length := by omega
  rw [List.take_length]
  have hSl : (((ks.map (rewT chosenR)).map Sub.mk).map (av : Sub → AV)).length = ks.length := by simp
  have hSt : List.take ks.length (((ks.map (rewT chosenR)).map Sub.mk).map (av : Sub → AV)) = ((ks.map (rewT chosenR)).map Sub.mk).map av := List.take_of_length_le (by omega)
  have hSm : ∀ hp, (((ks.map (rewT chosenR)).map Sub.mk).map (av : Sub → AV)).map (AV.pur hp) = ((ks.map (rewT chosenR)).map Sub.mk).map av := fun hp => map_nop _ hp
  rw [rewT_mk]
  have hll : (ks.map (rewT chosenR)).length = ks.length := List.length_map _
  have hall2 : ∀ k ∈ ks.map (rewT chosenR), k.rk ∧ k.size ≤ 600 := fun k hk => by
   obtain ⟨q, hq, rfl⟩ := List.mem_map.1 hk
   have h1 := hall q hq
   have h2 := sizes_mem hq
   exact ⟨h1.1, by omega⟩
  simp +contextual -dsimp (maxSteps := 2000000) only [↓SD, SU, SB, simprocAttr, Nat.lt_irrefl]
  generalize ks.map (rewT chosenR) = L at *
  refine ghost_of (Goes.frz 26 (Goes.purB 3 (b := ⟨v3, false, 48, 7, [.agg [.int .i64 n.kind, .int .i64 n.pos, .int .i64 n.n, .str n.s, .sl (n.kids.map av), .sl (n.pats.map av), .row 26 z ks.length]]⟩) rfl (Goes.here ?_)))
  by_cases h13 : n.kind = 13
  ·have E13 := eq_true h13
   have hl := hrk.1.2.2.1 h13
   have hL0 : 0 < L.length := by omega
   have hL1 : (0 : Int) < (ks.length : Int) := by omega
   have eK : ∀ i (h : i < L.length), ((L.map Sub.mk).map (av : Sub → AV)).getD i .top = av (Sub.mk L[i]) := fun i h => by
    have h3 : i < (L.map Sub.mk).length := by rw [List.length_map]; exact h
    have e1 := getD_map av (L.map Sub.mk) i .top h3
    rwa [List.getElem_map] at e1
   have eK0 := eK 0 hL0
   have hgk : ∀ i (h : i < L.length), L.getD i (.mk default []) = L[i] := fun i h => by simp [List.getD_eq_getElem?_getD, h]
   have ha := hall2 _ (List.getElem_mem hL0)
   obtain ⟨m, js, hmj⟩ : ∃ m js, L[0] = .mk m js := by
    cases h : L[0] with
    | mk m js => exact ⟨m, js, rfl⟩
   have hjl : js.length ≤ 600 := by have h1 := ha.2; rw [hmj, Tr.size] at h1; have := sizes_len js; omega
   have CB := l16Bare_ok m js (by omega)
   have CA := l16AtomB_ok m js.length (by omega)
   have hpl : plainT (L.getD 0 (.mk default [])) = plainB m js.length := by rw [hgk 0 hL0, hmj]; rfl
   have hhd : (L.getD 0 (.mk default [])).hd = m := by rw [hgk 0 hL0, hmj]; rfl
   rw [← hmj] at CB
   have hB1 : (bareN m js.length).kind = m.kind := rfl
   have hBh : ∀ q, hitsB q (bareN m js.length) = hitsB q m := fun q => rfl
   generalize bareN m js.length = B at *
   rw [chosenR, hpl, hhd]
   rw [av_Node] at CB
   have CA' := CA
   rw [av_Node] at CA'
   have hm1 : ∀ hp, (B.kids.map (av : Int → AV)).map (AV.pur hp) = B.kids.map av := fun hp => map_nop _ hp
   have hm2 : ∀ hp, (B.pats.map (av : Pat → AV)).map (AV.pur hp) = B.pats.map av := fun hp => map_nop _ hp
   simp +contextual -dsimp (maxSteps := 2000000) only [↓SD, SU, SB, simprocAttr, hSl, hSt, hSm, E13, Nat.le_refl, eK0, hL1, sub_len, sub_agg, sub_pur, sub_purA, sub_ok]
   refine aCallK_of _ CB ?_
   simp +contextual -dsimp (maxSteps := 2000000) only [↓SD, SU, SB, simprocAttr, hm1, hm2]
   intro v5
   refine aCallK_of _ CA' ?_
   cases hp : plainB m js.length with
   | false =>
    rw [if_neg (fun h => by cases h.2.1)]
    simp +contextual -dsimp (maxSteps := 2000000) only [↓SD, SU, SB, simprocAttr, hSl, hSt, hSm, Nat.le_refl, sub_len, sub_agg, sub_pur, sub_purA, sub_ok]
    rw [av_Sub]
   | true =>
    by_cases h2 : m.kind = 2
    ·have E2 := eq_true h2
     rw [if_neg (fun h => h.2.2 h2)]
     simp +contextual -dsimp (maxSteps := 2000000) only [↓SD, SU, SB, simprocAttr, hSl, hSt, hSm, hB1, E2, Nat.le_refl, sub_len, sub_agg, sub_pur, sub_purA, sub_ok]
     rw [av_Sub]
    ·have E2 := eq_false h2
     rw [if_pos ⟨h13, rfl, h2⟩]
     simp +contextual -dsimp (maxSteps := 2000000) only [↓SD, SU, SB, simprocAttr, hSl, hSt, hSm, hB1, E2, Nat.le_refl, sub_len, sub_agg, sub_pur, sub_purA, sub_ok]
     have hkx : n.pats.length ≤ 1048576 := by
      have b4 : Bulk.bulk n = Bulk.bulk n.kind + Bulk.bulk n.pos + Bulk.bulk n.n + Bulk.bulk n.s + Bulk.bulk n.kids + Bulk.bulk n.pats + 1 := rfl
      have b5 := hrk.1.2.2.2.2.2.2
      have b6 := bulk_length n.pats
      omega
     refine aLoop_of (X := Nat) (fun j => ⟨[(1, .obj [.int .i64 n.kind, .int .i64 n.pos, .int .i64 n.n, .str n.s, .sl (n.kids.map av), .sl (n.pats.map av), .sl ((ks.map Sub.mk).map av)]), (2, .ptr 2 v2 0 0), (3, .ptr 3 v3 0 0), (5, .ptr 5 v5 0 0), (50, .sl (n.pats.map av)), (51, .int .i64 n.pats.length), (52, .int .i64 j)], [(2, ⟨v2, false, 48, 7, [.agg [.int .i64 0, .int .i64 0, .int .i64 0, .str (bs []), .nils, .nils, .nils]]⟩), (3, ⟨v3, false, 48, 7, [.agg [.int .i64 n.kind, .int .i64 n.pos, .int .i64 n.n, .str n.s, .sl (n.kids.map av), .sl (n.pats.map av), .sl ((L.map Sub.mk).map av)]]⟩), (5, ⟨v5, false, 45, 6, [.agg [.int .i64 m.kind, .int .i64 B.pos, .int .i64 B.n, .str B.s, .sl (B.kids.map av), .sl (B.pats.map av)]]⟩)]⟩) (fun j => j ≤ n.pats.length ∧ ∀ k (hk : k < n.pats.length), k < j → hitsB n.pats[k] m = false) (fun j => n.pats.length - j) 0 ⟨Nat.zero_le _, fun k hk h => by omega⟩ (by simp +contextual -dsimp only [↓SD, SU, SB, simprocAttr, map_len]) (by simp +contextual -dsimp only [↓SD, SU, SB, simprocAttr]) ?_
     rintro j ⟨hj, hjf⟩
     try dsimp only at hj hjf ⊢
     by_cases hlt : j < n.pats.length
     ·have eQ := getD_map av n.pats j .top hlt
      have hne := hrk.1.2.2.2.2.1 _ (List.getElem_mem hlt)
      have hbj := bulk_mem (List.getElem_mem hlt)
      have hbq : Bulk.bulk n.pats[j] ≤ 1048576 := by
       have b4 : Bulk.bulk n = Bulk.bulk n.kind + Bulk.bulk n.pos + Bulk.bulk n.n + Bulk.bulk n.s + Bulk.bulk n.kids + Bulk.bulk n.pats + 1 := rfl
       have b5 := hrk.1.2.2.2.2.2.2
       omega
      have CH := l16Hits_ok n.pats[j] B hne hbq
      rw [hBh, av_Node, hB1] at CH
      obtain ⟨⟨l⟩, hq⟩ : ∃ q, q = n.pats[j] := ⟨_, rfl⟩
      rw [← hq] at eQ hne CH
      rw [av_Pat] at eQ CH
      dsimp only at hne eQ CH
      have hl2 : 0 < l.length := List.length_pos_iff.2 hne
      have hl3 : (0 : Int) < (l.length : Int) := by omega
      have eX := getD_map av l 0 .top hl2
      have hgx : l.getD 0 default = l[0] := by simp [List.getD_eq_getElem?_getD, hl2]
      generalize hx : l[0] = x at *
      rw [av_PNode] at eX
      have hm3 : ∀ hp, (l.map (av : PNode → AV)).map (AV.pur hp) = l.map av := fun hp => map_nop _ hp
      simp +contextual -dsimp (maxSteps := 2000000) only [↓SD, SU, SB, simprocAttr, map_len, hlt, eQ, hm1, hm2, hm3]
      intro v7
      refine aCallK_of _ CH ?_
      cases hh : hitsB ⟨l⟩ m with
      | false =>
       simp +contextual -dsimp (maxSteps := 2000000) only [↓SD, SU, SB, simprocAttr]
       refine ⟨by omega, Goes.le ⟨j + 1, ⟨⟨hlt, fun k hk hkj => ?_⟩, (by first | omega | (simp only; omega))⟩, rfl⟩ (by simp +contextual -dsimp only [↓SD, SU, SB, simprocAttr, Int.natCast_add]) (by simp +contextual -dsimp only [↓SD, SU, SB, simprocAttr])⟩
       rcases Nat.lt_or_ge k j with h | h
       ·exact hjf k hk h
       ·obtain rfl : k = j := by omega
        rw [← hq]; exact hh
      | true =>
       have hgp : n.pats.getD j default = ⟨l⟩ := by rw [hq]; simp [List.getD_eq_getElem?_getD, hlt]
       rw [firstF_some hlt (fun k hk => hjf k (by omega) hk) (by rw [← hq]; exact hh)]
       dsimp only
       rw [hgp, hgx]
       have hj4 : j + 1 < L.length := by omega
       have hj0 : -9223372036854775808 ≤ (j : Int) + 1 := by omega
       have hj1 : (j : Int) + 1 ≤ 9223372036854775807 := by omega
       have hj2 : 0 ≤ (j : Int) + 1 := by omega
       have hj3 : (j : Int) + 1 < (ks.length : Int) := by omega
       have hjn : ((j : Int) + 1).toNat = j + 1 := by omega
       have eK1 := eK (j + 1) hj4
       rw [hgk (j + 1) hj4, hgk 0 hL0]
       by_cases hx2 : x.kind = 2
       ·have E2 := eq_true hx2
        rw [if_pos hx2]
        simp +contextual -dsimp (maxSteps := 2000000) only [↓SD, SU, SB, simprocAttr, map_len, eX, hl2, hl3, E2, hSl, hSt, hSm, eK0, eK1, hL1, hj0, hj1, hj2, hj3, hj4, hjn, sub_len, sub_agg, sub_pur, sub_purA, sub_ok, elem1_ok]
        refine aCallK_of _ (l03One_ok 7 n.pos x.s [Sub.mk L[0], Sub.mk L[j + 1]]) ?_
        simp +contextual -dsimp (maxSteps := 2000000) only [↓SD, SU, SB, simprocAttr]
        rw [av_Sub]
        rfl
       ·have E2 := eq_false hx2
        rw [if_neg hx2]
        obtain ⟨rn, rk, hmk⟩ : ∃ rn rk, L[j + 1] = .mk rn rk := by
         cases h : L[j + 1] with
         | mk a b => exact ⟨a, b, rfl⟩
        rw [hmk] at eK1 ⊢
        rw [av_Sub] at eK1 ⊢
        simp +contextual -dsimp (maxSteps := 2000000) only [↓SD, SU, SB, simprocAttr, map_len, eX, hl2, hl3, E2, hSl, hSt, hSm, eK0, eK1, hL1, hj0, hj1, hj2, hj3, hj4, hjn, sub_len, sub_agg, sub_pur, sub_purA, sub_ok]
     ·obtain rfl : j = n.pats.length := by omega
      rw [firstF_none (fun k hk => hjf k hk hk)]
      simp +contextual -dsimp (maxSteps := 2000000) only [↓SD, SU, SB, simprocAttr, Nat.lt_irrefl, hSl, hSt, hSm]
      rw [av_Sub]
  ·have E13 := eq_false h13
   have hcho : chosenR (.mk n L) = .mk n L := by rw [chosenR, if_neg (fun h => h13 h.1)]
   rw [hcho]
   simp +contextual -dsimp (maxSteps := 2000000) only [↓SD, SU, SB, simprocAttr, hSl, hSt, hSm, E13, Nat.le_refl]
   rw [av_Sub]
theorem specChosen_ok (p : Program) (hx : Bulk.bulk p ≤ 1048576) : CallsF Tryz.prog 13 [av p] (av (rewP chosenR p)) := by
 obtain ⟨q1, q2, q3, q4⟩ := prog_small hx
 have C := specProgramOk_ok p hx
 rw [av_Program] at C
 cases hb : progB p with
 | false =>
  rw [hb] at C
  have e : rewP chosenR p = ⟨[], []⟩ := by rw [rewP, if_neg (by rw [hb]; simp)]
  rw [e]
  refine callsF_weaker (r := .agg [.nils, .nils]) (fun_spec_Chosen rfl (by simp; exact AVal.clean p) (AvPure.agg (by simp; exact AvPure.nils)) ?_) (fun S w v h => nilP_w h)
  simp +contextual -dsimp (maxSteps := 2000000) only [↓SD, SU, SB, simprocAttr, ir_spec_Chosen, rs_spec_Chosen, av_Program]
  intro v2
  refine aCallK_of _ C ?_
  simp +contextual -dsimp (maxSteps := 2000000) only [↓SD, SU, SB, simprocAttr]
 | true =>
  rw [hb] at C
  obtain ⟨f1, f2, f3, f4, f5⟩ := prog_facts hx hb
  have hk : ∀ i, i < p.nodes.length → ∀ k ∈ nkids p.nodes i, (i : Int) < k ∧ k < p.nodes.length := fun i hi k hk => tree_in f3 hi hk
  have G := l09Sub_ok p hk q2 p.nodes.length 0 (by omega) (by omega)
  rw [show growT p.nodes p.nodes.length 0 = treeAt p.nodes 0 from rfl, av_Program] at G
  have hT := tree_K hx hb
  have hsz := (tree_facts hx hb).2.2.2.1
  have CS := l16Chosen_ok _ hT hsz
  have hR := rewT_rk (R := chosenR) (fun t h => chosenR_rk h) _ hT
  have CP := l16Program_ok p _ q1 (show (rewT chosenR (treeAt p.nodes 0)).size ≤ 600 by omega)
  have e : rewP chosenR p = ⟨p.types, layT 0 (rewT chosenR (treeAt p.nodes 0))⟩ := by rw [rewP, if_pos hb]
  rw [e]
  rw [av_Program, av_Program] at CP
  rw [av_Program]
  refine fun_spec_Chosen rfl (by simp; exact AVal.clean p) (AVal.clean (⟨p.types, layT 0 (rewT chosenR (treeAt p.nodes 0))⟩ : Program)) ?_
  clear e hR
  generalize rewT chosenR (treeAt p.nodes 0) = T' at *
  generalize treeAt p.nodes 0 = T at *
  generalize layT 0 T' = L at *
  have hlm : ∀ hp, (L.map (av : Node → AV)).map (AV.pur hp) = L.map av := fun hp => map_nop _ hp
  have htm : ∀ hp, (p.types.map (av : TypeD → AV)).map (AV.pur hp) = p.types.map av := fun hp => map_nop _ hp
  simp +contextual -dsimp (maxSteps := 2000000) only [↓SD, SU, SB, simprocAttr, ir_spec_Chosen, rs_spec_Chosen, av_Program]
  intro v2
  refine aCallK_of _ C ?_
  simp +contextual -dsimp (maxSteps := 2000000) only [↓SD, SU, SB, simprocAttr]
  refine aCallK_of _ G ?_
  simp +contextual -dsimp (maxSteps := 2000000) only [↓SD, SU, SB, simprocAttr, sub_purA]
  refine aCallK_of _ CS ?_
  simp +contextual -dsimp (maxSteps := 2000000) only [↓SD, SU, SB, simprocAttr, sub_purA]
  refine aCallK_of _ CP ?_
  simp +contextual -dsimp (maxSteps := 2000000) only [↓SD, SU, SB, simprocAttr, hlm, htm]
end Go.Proofs.YtmlckdffkbbbhaaGreat
