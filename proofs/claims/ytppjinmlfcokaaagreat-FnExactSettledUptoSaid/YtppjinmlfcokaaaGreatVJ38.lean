/-
  THE ABSTRACT TEXTS OF FUNCTIONS (GrowO), printed by irgen.py, and that they are the functions' own. Conditions: none.
-/
import Derived.Test.YtppjinmlfcokaaaGreatProg
import Derived.Test.YtppjinmlfcokaaaGreatVAvDraw
import Derived.Test.YtppjinmlfcokaaaGreatVCopyO
import Derived.Test.YtppjinmlfcokaaaGreatVJ34
import Derived.Test.YtppjinmlfcokaaaGreatVJ36
import Derived.Test.YtppjinmlfcokaaaGreatVFlatT
import Derived.Test.YtppjinmlfcokaaaGreatVPgmW4
import Derived.Test.YtppjinmlfcokaaaGreatVJ35
set_option linter.unusedVariables false
set_option maxRecDepth 100000
namespace Go.Proofs.YtppjinmlfcokaaaGreat
open Go.Proofs.YtppjinmlfcokaaaGreat.Av

theorem Q5 : Tryz.prog.follows .mixedOrders = true := by kernel_rfl

def KF : Ir Tryz.prog 33 [(25,25),(14,7775),(16,7775),(18,7775),(20,7775),(22,7775), (23, 7777), (40, 7777)] [9999, 2] 2 := ⟨_, _, Tryz.func33, Q5, by kernel_rfl, Aj [10006] Tryz.progTables (by conv => lhs; cbv) (by kernel_rfl)⟩
end Go.Proofs.YtppjinmlfcokaaaGreat
set_option linter.unusedVariables false
set_option linter.unusedSimpArgs false
set_option maxRecDepth 100000
namespace Go.Proofs.YtppjinmlfcokaaaGreat
open Go.RowKit Go.Proofs.YtppjinmlfcokaaaGreat.Av Go.Proofs.YtppjinmlfcokaaaGreat.Ml
open Go.Proofs.YtppjinmlfcokaaaGreat.Av.AVal (av)
open OVal (ov oh on)

theorem Af.Af4 {s : St} {T : St → Prop} (i j k : Nat) {v a o : Nat} {b : Box} (hi : Bp s.fr i = .ptr j v a o) (hb : Ao s.hp j = some b) (hv : b.ver = v)
  (h : ∀ v', Af ⟨(i, .ptr k v' a o) :: s.fr, (k, ⟨v', b.frz, b.ty, b.esz, b.es⟩) :: Ci [j] s.hp⟩ T) : Af s T :=
 Af.Afu (fun v' => (i, .ptr k v' a o) :: s.fr) j k hb hv (fun v' S w μ ρ e hf => LR hf (by
  have h1 := hf i
  rw [hi] at h1
  generalize ρ i = u at h1 ⊢
  cases h1 with
  | ptr _ _ _ _ b cap esz h2 => exact .ptr k v' a o b cap esz (e.trans h2))) h
theorem AeK {α : Type} [AVal α] [OVal α] {nm : Nat} {vs v1 : Nat → Nat} (L : List α) (t : α) : ovL nm (glue (sub nm L.length) v1 vs) 0 (L ++ [t]) = ovL nm vs 0 L ++ [ov (sub nm L.length) v1 t] ∧ ohL nm (glue (sub nm L.length) v1 vs) 0 (L ++ [t]) = ohL nm vs 0 L ++ oh (sub nm L.length) v1 t := by
 have h := IK (nm := nm) (j := L.length) v1 vs 0 L (by omega)
 rw [Mj, OQ, h.1, h.2, Nat.zero_add]
 simp only [ovL, ohL, OM, OP, List.append_nil, and_self]
structure GoS where
 j : Nat
 u : Nat
 vs : Nat → Nat
set_option maxHeartbeats 4000000 in
theorem Qi (l : List Node) (hk : ∀ i, i < l.length → ∀ k ∈ Aq l i, (i : Int) < k ∧ k < l.length) (hx : Ac.bulk l ≤ 4294967296) : ∀ (f nm i : Nat), i < l.length → l.length - i ≤ f → Bu Tryz.prog 33 [.sl (l.map av), .int .i64 i] [] (DC nm (Bw l f i)) := by
 intro f
 induction f with
 | zero => intro nm i hi hf; omega
 | succ f ih =>
  intro nm i hi hf
  have hl := Ai l
  have e := getD_map av l i .top hi
  have em := List.getElem_mem hi
  obtain ⟨b1, b2, b3, b4⟩ := Eg hx em
  have hK : Aq l i = l[i].kids := by simp [Aq, hi]
  have hg : Bw l (f + 1) i = .mk l[i] (l[i].kids.map fun k => Bw l f k.toNat) := by rw [Bw, hK]; simp [hi]
  have hks := hk i hi
  rw [hK] at hks
  obtain ⟨P, hP⟩ : ∃ P, P = sub nm 1 := ⟨_, rfl⟩
  obtain ⟨K, hKK⟩ : ∃ K, K = sub nm 0 := ⟨_, rfl⟩
  have hPg : 10000 ≤ P := by rw [hP]; exact Cm _ _
  have hKg : 10000 ≤ K := by rw [hKK]; exact Cm _ _
  have hKP : ∀ q, InT P q → K ≠ q := fun q hq e => by
   rw [hP] at hq
   rw [hKK] at e
   rw [← e] at hq
   exact Dn (i := 0) (j := 1) (by omega) .root hq
  have C := M5 P l[i].Ae b3
  have hn1 : ∀ q, q < 10000 → (q == P) = false := fun q hq => beq_eq_false_iff_ne.2 (by omega)
  have hn2 : ∀ q, q < 10000 → (P = q) = False := fun q hq => eq_false (by omega)
  have hn3 : ∀ q, q < 10000 → (q == K) = false := fun q hq => beq_eq_false_iff_ne.2 (by omega)
  have hn4 : ∀ q, q < 10000 → (K = q) = False := fun q hq => eq_false (by omega)
  have hn5 : ∀ q, q < 10000 → (K == q) = false := fun q hq => beq_eq_false_iff_ne.2 (by omega)
  have hn6 : ∀ q, q < 10000 → (P == q) = false := fun q hq => beq_eq_false_iff_ne.2 (by omega)
  rw [hg]
  clear hg hK
  generalize l[i] = n at *
  refine Dt (Post := fun r hp' => ∃ w u vs vp, r = .ptr 25 w 0 0 ∧ hp' = (25, (⟨w, false, 102, 6, [exB n K u n.kids.length P (vp P)]⟩ : Box)) :: (K, ⟨u, false, 55, 1, ovL K vs 0 (n.kids.map fun k => Bw l f k.toNat)⟩) :: (ohL K vs 0 (n.kids.map fun k => Bw l f k.toNat) ++ oh P vp n.Ae)) (KF.H rfl ?_) ?_
  case refine_2 =>
   rintro r hp' ⟨w, u, vs, vp, rfl, rfl⟩
   generalize hks2 : (n.kids.map fun k => Bw l f k.toNat) = ks at *
   have hkl : ks.length = n.kids.length := by rw [← hks2, List.length_map]
   refine Af.Af4 0 25 nm (v := w) (a := 0) (o := 0) rfl BH rfl fun w' => ?_
   obtain ⟨va, hva⟩ : ∃ va : Nat → Nat, va = fun q => if q = nm then w' else if q = K then u else glue P vp vs q := ⟨_, rfl⟩
   have a1 : va nm = w' := by rw [hva]; simp
   have hnK : K ≠ nm := by rw [hKK]; exact fun e => (InT.root (nm := sub nm 0)).ne e
   have hnP : P ≠ nm := by rw [hP]; exact fun e => (InT.root (nm := sub nm 1)).ne e
   have a2 : va K = u := by rw [hva]; simp [hnK]
   have a3 := OVal.FN P va vp n.Ae (fun q hq => by
    rw [hva]
    dsimp only
    rw [if_neg (by rw [hP] at hq; exact hq.ne), if_neg (fun e => hKP q hq e.symm), Jq hq])
   have hvv : ∀ (i : Nat) (ks : List Tr), ovL K va i ks = ovL K vs i ks ∧ ohL K va i ks = ohL K vs i ks := by
    intro i ks
    induction ks generalizing i with
    | nil => exact ⟨rfl, rfl⟩
    | cons t r ih2 =>
     obtain ⟨c, d⟩ := ih2 (i + 1)
     obtain ⟨e1, e2⟩ := OVal.FN (sub K i) va vs t (fun q hq => by
      rw [hva]
      dsimp only
      rw [if_neg (by rw [hKK] at hq; exact hq.up.ne), if_neg hq.ne, EJ (fun h => by rw [hP] at h; rw [hKK] at hq; exact Dn (i := 0) (j := 1) (by omega) hq.up h)])
     simp only [ovL, ohL, c, d, e1, e2, and_self]
   have a4 : oh nm va (Tr.mk n ks) = (ohL K vs 0 ks ++ [(K, ⟨u, false, 55, 1, ovL K vs 0 ks⟩)]) ++ (oh P vp n.Ae ++ [(nm, ⟨w', false, 102, 6, [exB n K u ks.length P (vp P)]⟩)]) := by
    have a5 : va P = vp P := by have := a3.1; rw [DJ, DJ] at this; exact (AV.row.inj this).2.1
    rw [N5, ← hKK, ← hP, Cn, Gg, (hvv 0 ks).1, (hvv 0 ks).2, a3.2, a1, a2, a5]; rfl
   refine Af.le (t := ⟨[(0, .ptr nm w' 0 0)], oh nm va (Tr.mk n ks)⟩) ⟨va, by rw [AD, a1]; rfl, rfl⟩ (by simp +contextual -dsimp only [↓SD, SU, simprocAttr]) ?_
   rw [a4, hkl]
   have hU : ∀ p ∈ ohL K vs 0 ks ++ oh P vp n.Ae, 10000 ≤ p.1 ∧ p.1 ≠ nm ∧ p.1 ≠ K := fun p hp => by
    rcases List.mem_append.1 hp with h | h
    ·obtain ⟨q, _, hq⟩ := DY h
     exact ⟨hq.ge, fun e => by rw [hKK] at hq; exact hq.up.ne e, hq.ne⟩
    ·have hq := OVal.inh h
     exact ⟨by have := hq.le; omega, fun e => by rw [hP] at hq; exact hq.ne e, fun e => hKP _ hq e.symm⟩
   have hself : AR (ohL K vs 0 ks ++ oh P vp n.Ae) (ohL K vs 0 ks ++ oh P vp n.Ae) := Lg (Dc _ _ _ _) (OVal.self _ _ _) fun p hp q hq e => by
    obtain ⟨j, _, h1⟩ := DY hq
    have h2 := OVal.inh hp
    rw [e, hKK] at h1
    rw [hP] at h2
    exact Dn (i := 0) (j := 1) (by omega) h1.up h2
   have hall : ∀ p ∈ ohL K vs 0 ks ++ oh P vp n.Ae, Ao ((nm, (⟨w', false, 102, 6, [exB n K u n.kids.length P (vp P)]⟩ : Box)) :: Ci [25] ((25, (⟨w, false, 102, 6, [exB n K u n.kids.length P (vp P)]⟩ : Box)) :: (K, ⟨u, false, 55, 1, ovL K vs 0 ks⟩) :: (ohL K vs 0 ks ++ oh P vp n.Ae))) p.1 = some p.2 := fun p hp => by
    obtain ⟨h1, h2, h3⟩ := hU p hp
    rw [BL (fun e => h2 e.symm), BT (by simp; omega), BL (by omega), BL (fun e => h3 e.symm)]
    exact AL.1 hself p hp
   refine AF.2 ⟨AF.2 ⟨AL.2 fun p hp => hall p (List.mem_append_left _ hp), ?_, trivial⟩, AF.2 ⟨AL.2 fun p hp => hall p (List.mem_append_right _ hp), BH, trivial⟩⟩
   rw [BL (fun e => hnK e.symm), BT (by simp; omega), BL (by omega)]; exact BH
  simp +contextual -dsimp only [↓SD, SU, simprocAttr, KF, Ab, hi, e, As]
  intro w5
  refine EK (Af.frz 5 (Af.pur 5 (Af.here ?_)))
  simp +contextual -dsimp only [↓SD, SU, simprocAttr, AB]
  refine Bt [] C (by simp +contextual -dsimp only [↓SD, SU, simprocAttr]) ?_
  rintro r hp' ⟨vp, rfl, rfl⟩ H hH
  rw [DN] at hH
  have hoP : AR H (oh P vp n.Ae) := by rw [hH]; exact Cj (OVal.self _ _ _)
  have hr1 := BS hoP
  simp +contextual -dsimp only [↓SD, SU, simprocAttr, DJ, hr1, hn1, hn2, false_and, Ab]
  intro w
  obtain ⟨g, hg⟩ : ∃ g : Int → Tr, g = fun k => Bw l f k.toNat := ⟨_, rfl⟩
  rw [← hg]
  have hUP : AR (oh P vp n.Ae) (oh P vp n.Ae) := OVal.self _ _ _
  have hUPi : ∀ p ∈ oh P vp n.Ae, InT P p.1 := fun p hp => OVal.inh hp
  have hUPg : ∀ p ∈ oh P vp n.Ae, 10000 ≤ p.1 := fun p hp => by have := (hUPi p hp).le; omega
  obtain ⟨W, hW⟩ : ∃ W, W = oh P vp n.Ae := ⟨_, rfl⟩
  rw [← hW] at hoP hUP hUPi hUPg
  refine DU (X := GoS) (fun x => ⟨[(0, .sl (l.map av)), (6, .ptr 25 w 0 0), (27, .sl (n.kids.map av)), (28, .int .i64 n.kids.length), (29, .int .i64 x.j)], (25, ⟨w, false, 102, 6, [.agg [.int .i64 n.kind, .int .i64 n.pos, .int .i64 n.n, .str n.s, .row K x.u x.j, .row P (vp P) n.Ae.length]]⟩) :: (K, ⟨x.u, false, 55, 1, ovL K x.vs 0 ((n.kids.take x.j).map g)⟩) :: (ohL K x.vs 0 ((n.kids.take x.j).map g) ++ W)⟩) (fun x => x.j ≤ n.kids.length) (fun x => n.kids.length - x.j) ?_ ?_
  ·refine Af.FC 25 0 4 K 55 1 rfl rfl Nat.zero_lt_one rfl (by omega) fun v => ?_
   refine Af.le ⟨⟨0, v, fun _ => 0⟩, Nat.zero_le _, rfl⟩ (by simp +contextual -dsimp only [↓SD, SU, simprocAttr]) ?_
   simp +contextual -dsimp only [↓SD, SU, simprocAttr, hn3, hn5, List.take_zero, List.map_nil, ovL, ohL]
   repeat (first | exact hoP | refine Cd ?_ (fun p hp e => by have := hUPg p hp; omega) | refine Cd ?_ (fun p hp e => hKP _ (hUPi p hp) e))
  clear hoP hr1 hH H
  rintro ⟨j, u, vs⟩ hj
  dsimp only at hj ⊢
  by_cases hlt : j < n.kids.length
  ·have e2 := getD_map av n.kids j .top hlt
   have hkj := hks _ (List.getElem_mem hlt)
   have ht : n.kids.take (j + 1) = n.kids.take j ++ [n.kids[j]] := List.take_succ_eq_append_getElem hlt
   obtain ⟨m, hm⟩ : ∃ m : Nat, n.kids[j] = m := ⟨n.kids[j].toNat, by omega⟩
   rw [hm] at e2 hkj ht
   have C2 := ih (sub K j) m (by omega) (by omega)
   have hgm : Bw l f m = g m := by rw [hg]; simp
   rw [hgm] at C2
   have hLl : ((n.kids.take j).map g).length = j := by simp; omega
   have hse := fun v1 => AeK (nm := K) (vs := vs) (v1 := v1) ((n.kids.take j).map g) (g m)
   rw [hLl] at hse
   have hmt : (n.kids.take (j + 1)).map g = (n.kids.take j).map g ++ [g m] := by rw [ht, List.map_append]; rfl
   rw [← hmt] at hse
   have hel : (ovL K vs 0 ((n.kids.take j).map g)).length = j := by rw [Dp, hLl]
   generalize hLL : (n.kids.take j).map g = L at *
   obtain ⟨U, hU⟩ : ∃ U, U = ohL K vs 0 L := ⟨_, rfl⟩
   have hUU : AR U U := by rw [hU]; exact Dc _ _ _ _
   have hUi : ∀ p ∈ U, ∃ i, i < j ∧ InT (sub K i) p.1 := fun p hp => by
    rw [hU] at hp
    obtain ⟨q, hq, hm⟩ := H7 hp
    rw [Nat.zero_add] at hm
    exact ⟨q, by omega, OVal.inh hm⟩
   rw [← hU] at hse ⊢
   obtain ⟨E, hE⟩ : ∃ E, E = ovL K vs 0 L := ⟨_, rfl⟩
   rw [← hE] at hse hel ⊢
   have hEt : List.take j E = E := List.take_of_length_le (by omega)
   have hself : AR (U ++ W) (U ++ W) := Lg hUU hUP fun p hp q hq e => by
    obtain ⟨i, _, h1⟩ := hUi q hq
    have h2 := hUPi p hp
    rw [e, hKK] at h1
    rw [hP] at h2
    exact Dn (i := 0) (j := 1) (by omega) h1.up h2
   have hUW : ∀ p ∈ U ++ W, 10000 ≤ p.1 ∧ K ≠ p.1 ∧ ¬ InT (sub K j) p.1 := fun p hp => by
    rcases List.mem_append.1 hp with h | h
    ·obtain ⟨i, hi, h1⟩ := hUi p h
     exact ⟨h1.ge, fun e => h1.ne e.symm, fun h2 => by have := h1.sib h2; omega⟩
    ·have h1 := hUPi p h
     exact ⟨hUPg p h, hKP _ h1, fun h2 => by rw [hP] at h1; rw [hKK] at h2; exact Dn (i := 0) (j := 1) (by omega) h2.up h1⟩
   simp +contextual -dsimp only [↓SD, SU, simprocAttr, Ab, hlt, e2, AA, hn3, hn4]
   refine ⟨?_, ?_⟩
   all_goals
    refine Bt [] C2 (by simp +contextual -dsimp only [↓SD, SU, simprocAttr]) ?_
    rintro r hp' ⟨v1, rfl, rfl⟩ H hH
    rw [DN] at hH
    have hKn : ¬ InT (sub K j) K := fun h => h.ne rfl
    have h25 : ¬ InT (sub K j) 25 := fun h => by have := h.ge; omega
    have ho : AR H (oh (sub K j) v1 (g m)) := by rw [hH]; exact Cj (OVal.self _ _ _)
    have q25 : Ao H 25 = some ⟨w, false, 102, 6, [.agg [.int .i64 n.kind, .int .i64 n.pos, .int .i64 n.n, .str n.s, .row K u j, .row P (vp P) n.Ae.length]]⟩ := by rw [hH, Cx (Lh h25)]; exact BH
    have qK : Ao H K = some ⟨u, false, 55, 1, E⟩ := by rw [hH, Cx (Lh hKn), BL (by omega)]; exact BH
    have hUH : AR H (U ++ W) := by
     rw [hH]
     exact Fl (Cd (Cd hself (fun p hp => (hUW p hp).2.1)) (fun p hp e => by have := (hUW p hp).1; omega)) fun p hp q hq e => (hUW p hp).2.2 (e ▸ OVal.inh hq)
    obtain ⟨es0, q0⟩ := Cf ho
    simp +contextual -dsimp only [↓SD, SU, simprocAttr, Ab, AD, q25, qK, q0, hel, hEt, hn3, hn5, false_and]
    have hs1 := hse v1
    rw [AD] at hs1
    refine ⟨⟨by omega, by unfold maxLen; omega⟩, fun u' => ⟨by omega, Af.le ⟨⟨j + 1, u', glue (sub K j) v1 vs⟩, ⟨hlt, (by first | omega | (simp only; omega))⟩, rfl⟩ (by simp +contextual -dsimp only [↓SD, SU, simprocAttr, Int.natCast_add]) ?_⟩⟩
    simp only [hs1.1, hs1.2]
    simp +contextual -dsimp only [↓SD, SU, simprocAttr, hn3, hn5]
    have hall : AR H ((U ++ oh (sub K j) v1 (g m)) ++ W) := AF.2 ⟨AF.2 ⟨(AF.1 hUH).1, ho⟩, (AF.1 hUH).2⟩
    have hnm : ∀ p ∈ (U ++ oh (sub K j) v1 (g m)) ++ W, 25 ≠ p.1 ∧ K ≠ p.1 := fun p hp => by
     rcases List.mem_append.1 hp with h | h
     ·rcases List.mem_append.1 h with h | h
      ·have := hUW p (List.mem_append_left _ h); exact ⟨by omega, this.2.1⟩
      ·have h1 := OVal.inh h; have := h1.ge; exact ⟨by omega, fun e => h1.ne e.symm⟩
     ·have := hUW p (List.mem_append_right _ h); exact ⟨by omega, this.2.1⟩
    repeat (first | exact hall | refine Cd ?_ (fun p hp => (hnm p hp).1) | refine Cd ?_ (fun p hp => (hnm p hp).2))
  ·obtain rfl : j = n.kids.length := by omega
   rw [List.take_length]
   simp +contextual -dsimp only [↓SD, SU, simprocAttr, Nat.lt_irrefl]
   have hUi : ∀ p ∈ ohL K vs 0 (n.kids.map g), 25 ≠ p.1 ∧ K ≠ p.1 := fun p hp => by
    obtain ⟨q, _, hq⟩ := DY hp
    have := hq.ge
    exact ⟨by omega, fun e => hq.ne e.symm⟩
   refine Af.post ((25, (⟨w, false, 102, 6, [exB n K u n.kids.length P (vp P)]⟩ : Box)) :: (K, ⟨u, false, 55, 1, ovL K vs 0 (n.kids.map g)⟩) :: (ohL K vs 0 (n.kids.map g) ++ W)) ?_
   have hself : AR (ohL K vs 0 (n.kids.map g) ++ W) (ohL K vs 0 (n.kids.map g) ++ W) := Lg (Dc _ _ _ _) hUP fun p hp q hq e => by
    obtain ⟨i, _, h1⟩ := DY hq
    have h2 := hUPi p hp
    rw [e, hKK] at h1
    rw [hP] at h2
    exact Dn (i := 0) (j := 1) (by omega) h1.up h2
   have hnm : ∀ p ∈ ohL K vs 0 (n.kids.map g) ++ W, 25 ≠ p.1 ∧ K ≠ p.1 := fun p hp => by
    rcases List.mem_append.1 hp with h | h
    ·exact hUi p h
    ·exact ⟨by have := hUPg p h; omega, hKP _ (hUPi p h)⟩
   simp +contextual -dsimp only [↓SD, SU, simprocAttr, hn3, hn5, exB]
   exact ⟨by repeat (first | exact hself | refine Cd ?_ (fun p hp => (hnm p hp).1) | refine Cd ?_ (fun p hp => (hnm p hp).2)), w, u, vs, vp, rfl, by rw [hW]⟩
theorem TA {α : Type} [AVal α] [OVal α] {g : Nat} {vs : Nat → Nat} {y : α} {hp H : Hp} (hg : 10000 ≤ g) (hH : H = oh g vs y ++ hp) : ∀ q, q < 10000 → Ao H q = Ao hp q := fun q hq => by
 rw [hH, Cx (Lh fun h => by have := h.le; omega)]
theorem Mw {α : Type} [AVal α] [OVal α] {g : Nat} {vs : Nat → Nat} {y y' : α} {hp H : Hp} (hg : 10000 ≤ g) (hH : H = oh g vs y' ++ Ci (on g y) hp) : ∀ q, q < 10000 → Ao H q = Ao hp q := fun q hq => by
 rw [hH, Nw (fun h => by have := h.le; omega)]
theorem K3 {nm : Nat} {vs : Nat → Nat} {y : Program} {hp H : Hp} (hH : H = oh nm vs y ++ hp) : ∀ q, q < 10000 → Ao H q = Ao hp q := fun q hq => by
 rw [hH, Dl, Cx (fun p hp e => by
  rcases List.mem_append.1 hp with h | h
  ·have := (OVal.inh h).ge; omega
  ·have := (OVal.inh h).ge; omega)]
theorem PT {nm j : Nat} {b : Box} {vs : Nat → Nat} {y : Program} {hp : Hp} (hz : AR hp (oh nm vs y)) (hj : j < 10000) : AR ((j, b) :: hp) (oh nm vs y) := by
 rw [Dl] at hz ⊢
 exact Cd hz (fun q hq e => by
  rcases List.mem_append.1 hq with h | h
  ·have := (OVal.inh h).ge; omega
  ·have := (OVal.inh h).ge; omega)
end Go.Proofs.YtppjinmlfcokaaaGreat
set_option linter.unusedVariables false
set_option linter.unusedSimpArgs false
set_option maxRecDepth 100000
namespace Go.Proofs.YtppjinmlfcokaaaGreat
open Go.RowKit Go.Proofs.YtppjinmlfcokaaaGreat.Av Go.Proofs.YtppjinmlfcokaaaGreat.Ml
open Go.Proofs.YtppjinmlfcokaaaGreat.Av.AVal (av)
open OVal (ov oh on)

set_option maxHeartbeats 4000000 in
theorem Q4 (nm : Nat) (p : Program) (hx : Ac.bulk p ≤ 4294967296) : Bu Tryz.prog 25 [av p] [] (DC nm (Dj AM p)) := by
 obtain ⟨q1, q2, q3, q4⟩ := CD hx
 have C := Dy p hx
 rw [Ag] at C
 cases hb : Bv p with
 | false =>
  rw [hb] at C
  rw [Dj, if_neg (by rw [hb]; simp)]
  refine Dt (Post := fun r hp' => r = .agg [.An, .An] ∧ hp' = []) (EW.H rfl ?_) ?_
  case refine_2 =>
   rintro r hp' ⟨rfl, rfl⟩
   refine Af.AbC 0 0 (sub nm 0) 72 3 rfl rfl fun u => ?_
   refine Af.AbC 0 1 (sub nm 1) 49 6 rfl rfl fun v => ?_
   have hne : sub nm 1 ≠ sub nm 0 := fun e => by have := (ER e).2; omega
   refine Af.le (t := ⟨[(0, .agg [.row (sub nm 0) u 0, .row (sub nm 1) v 0])], [(sub nm 0, ⟨u, false, 72, 3, []⟩), (sub nm 1, ⟨v, false, 49, 6, []⟩)]⟩) ⟨fun q => if q = sub nm 0 then u else v, ?_, ?_⟩ (by simp +contextual -dsimp only [↓SD, SU, simprocAttr]) ⟨?_, BH, trivial⟩
   ·rw [BV, if_pos rfl, if_neg hne]; rfl
   ·rw [Dl, Cn, Cn, Jj, Gg, Gg, if_pos rfl, if_neg hne]; rfl
   ·rw [BL hne]; exact BH
  simp +contextual -dsimp (maxSteps := 2000000) only [↓SD, SU, simprocAttr, EW, Ag]
  intro v2
  refine Aa _ C ?_
  simp +contextual -dsimp (maxSteps := 2000000) only [↓SD, SU, simprocAttr]
  refine Af.post [] ?_
  simp +contextual -dsimp (maxSteps := 2000000) only [↓SD, SU, simprocAttr]
 | true =>
  rw [hb] at C
  obtain ⟨h1, h2, h3, h4, h5, h6⟩ := Fv hx hb
  obtain ⟨f1, f2, f3, f4, f5⟩ := Dk hx hb
  have hk : ∀ i, i < p.nodes.length → ∀ k ∈ Aq p.nodes i, (i : Int) < k ∧ k < p.nodes.length := fun i hi k hk => Ef f3 hi hk
  obtain ⟨g, hg⟩ : ∃ g, g = sub nm 2 := ⟨_, rfl⟩
  have hgg : 10000 ≤ g := by rw [hg]; exact Cm _ _
  have hge2 : ∀ q, q < 10000 → (q == g) = false := fun q hq => beq_eq_false_iff_ne.2 (by omega)
  have hg3 : ¬ InT g 3 := fun h => by have := h.le; omega
  have G := Qi p.nodes hk q2 p.nodes.length g 0 (by omega) (by omega)
  rw [show Bw p.nodes p.nodes.length 0 = Al p.nodes 0 from rfl, show ((0 : Nat) : Int) = 0 from rfl] at G
  have hrk := Nk hx hb
  have hsz : (Al p.nodes 0).size ≤ 600 := by have := h4; omega
  have hR := KX (R := AM) (fun t h => Gz h) _ hrk
  have RW := Pn AM 57 (fun t h => Gz h) Ab3 _ hrk hsz g hgg
  have PO := Ix nm p.types (AZ AM (Al p.nodes 0)) (Zk _ hR.1) (by omega) q1
  have hlen := Dm (AZ AM (Al p.nodes 0)) 0
  rw [Dj, if_pos hb]
  refine EW.H rfl ?_
  have hle : (Bz 0 (AZ AM (Al p.nodes 0))).length ≤ 600 := by omega
  clear hlen
  have hlt : ¬ (600 < ((Bz 0 (AZ AM (Al p.nodes 0))).length : Int)) := by omega
  generalize Bz 0 (AZ AM (Al p.nodes 0)) = L at *
  generalize AZ AM (Al p.nodes 0) = T' at *
  generalize Al p.nodes 0 = T at *
  simp +contextual -dsimp (maxSteps := 2000000) only [↓SD, SU, simprocAttr, EW, Ag]
  intro v2
  refine Aa _ C ?_
  simp +contextual -dsimp (maxSteps := 2000000) only [↓SD, SU, simprocAttr]
  refine Bt [] G (by simp +contextual -dsimp only [↓SD, SU, simprocAttr]) ?_
  rintro r hp' ⟨vs, rfl, rfl⟩ H hH
  rw [DN] at hH
  have o1 := TA hgg hH
  have l1 : AR H (oh g vs T) := by rw [hH]; exact Cj (OVal.self _ _ _)
  have h2a : Ao H 2 = some (⟨v2, false, 31, 2, [.agg [.An, .An]]⟩ : Box) := (o1 2 (by omega)).trans (by simp [Ao])
  obtain ⟨es0, b0⟩ := Cf l1
  have RW := RW vs
  rw [AD] at RW
  simp +contextual -dsimp (maxSteps := 2000000) only [↓SD, SU, simprocAttr, AD, b0, hge2, false_and]
  refine Bt (on g T) RW (GF l1) ?_
  rintro r hp2 ⟨v1, rfl, rfl⟩ H2 hH2
  have o2 := Mw hgg hH2
  have l2 := ES hH2
  have h2b : Ao H2 2 = some (⟨v2, false, 31, 2, [.agg [.An, .An]]⟩ : Box) := (o2 2 (by omega)).trans (by simp [Ao, h2a])
  obtain ⟨es1, b1⟩ := Cf l2
  simp +contextual -dsimp (maxSteps := 2000000) only [↓SD, SU, simprocAttr, AD, b1, hge2, false_and]
  refine FM (on g T') PO (A3 (by simp +contextual -dsimp only [↓SD, SU, simprocAttr]) (A3 (HH (AD g v1 T').symm l2) rfl)) ?_
  rintro r hp3 ⟨v4, rfl, rfl⟩
  refine ⟨⟨K2 _ _ _, IL _ _ _⟩, ?_⟩
  intro H3 hH3
  have o3 := K3 hH3
  have l3 : AR H3 (oh nm v4 (⟨p.types, L⟩ : Program)) := by rw [hH3]; exact Cj (OVal.self _ _ _)
  have h2c : Ao H3 2 = some (⟨v2, false, 31, 2, [.agg [.An, .An]]⟩ : Box) := (o3 2 (by omega)).trans (by simp [Ao, h2b])
  have l3' := l3
  rw [Dl, AF] at l3'
  have r0 := BS l3'.1
  have r1 := BS l3'.2
  clear o1 o2 o3 l1 l2 b0 b1 hH hH2 hH3 RW
  simp +contextual -dsimp (maxSteps := 2000000) only [↓SD, SU, simprocAttr, BV, h2c, r0, r1, Cu, false_and]
  refine Af.post (oh nm v4 (⟨p.types, L⟩ : Program)) ?_
  simp +contextual -dsimp (maxSteps := 2000000) only [↓SD, SU, simprocAttr, r0, r1, Cu, false_and]
  exact ⟨PT l3 (by omega), v4, by rw [BV], rfl⟩
end Go.Proofs.YtppjinmlfcokaaaGreat
set_option linter.unusedVariables false
set_option maxRecDepth 100000
namespace Go.Proofs.YtppjinmlfcokaaaGreat
open Go.Proofs.YtppjinmlfcokaaaGreat.Av

theorem Hm : Tryz.prog.follows .mixedOrders = true := by kernel_rfl

def Bs : Ir Tryz.prog 116 [(66,66),(108,66),(121,66)] [9999] 1 := ⟨_, _, Tryz.func116, Hm, by kernel_rfl, Aj [] Tryz.progTables (by conv => lhs; cbv) (by kernel_rfl)⟩
def El : Ir Tryz.prog 117 [] [] 1 := ⟨_, _, Tryz.func117, Hm, by kernel_rfl, Aj [] Tryz.progTables (by conv => lhs; cbv) (by kernel_rfl)⟩
def A4 : Ir Tryz.prog 56 [(11, 7777)] [9999] 1 := ⟨_, _, Tryz.func56, Hm, by kernel_rfl, Aj [] Tryz.progTables (by conv => lhs; cbv) (by kernel_rfl)⟩
def F6 : Ir Tryz.prog 24 [(8,7775),(10,7775), (11, 7777), (12, 7777), (13, 7777)] [9999] 1 := ⟨_, _, Tryz.func24, Hm, by kernel_rfl, Aj [] Tryz.progTables (by conv => lhs; cbv) (by kernel_rfl)⟩
end Go.Proofs.YtppjinmlfcokaaaGreat
set_option linter.unusedVariables false
set_option maxRecDepth 100000
namespace Go.Proofs.YtppjinmlfcokaaaGreat
open Go.Proofs.YtppjinmlfcokaaaGreat.Av

theorem Ds : Tryz.prog.follows .mixedOrders = true := by kernel_rfl

def MK : Ir Tryz.prog 180 [] [] 2 := ⟨_, _, Tryz.func180, Ds, by kernel_rfl, Aj [] Tryz.progTables (by conv => lhs; cbv) (by kernel_rfl)⟩
def MG : Ir Tryz.prog 181 [] [] 2 := ⟨_, _, Tryz.func181, Ds, by kernel_rfl, Aj [] Tryz.progTables (by conv => lhs; cbv) (by kernel_rfl)⟩
def MI : Ir Tryz.prog 182 [] [] 2 := ⟨_, _, Tryz.func182, Ds, by kernel_rfl, Aj [] Tryz.progTables (by conv => lhs; cbv) (by kernel_rfl)⟩
def MJ : Ir Tryz.prog 183 [] [] 2 := ⟨_, _, Tryz.func183, Ds, by kernel_rfl, Aj [] Tryz.progTables (by conv => lhs; cbv) (by kernel_rfl)⟩
def MH : Ir Tryz.prog 184 [] [] 2 := ⟨_, _, Tryz.func184, Ds, by kernel_rfl, Aj [] Tryz.progTables (by conv => lhs; cbv) (by kernel_rfl)⟩
def JD : Ir Tryz.prog 185 [] [] 1 := ⟨_, _, Tryz.func185, Ds, by kernel_rfl, Aj [] Tryz.progTables (by conv => lhs; cbv) (by kernel_rfl)⟩
def JC : Ir Tryz.prog 179 [] [9999] 3 := ⟨_, _, Tryz.func179, Ds, by kernel_rfl, Aj [] Tryz.progTables (by conv => lhs; cbv) (by kernel_rfl)⟩
def B8 : Ir Tryz.prog 147 [(133, 7777), (23, 7777), (35, 7777), (53, 7777)] [9999] 4 := ⟨_, _, Tryz.func147, Ds, by kernel_rfl, Aj [] Tryz.progTables (by conv => lhs; cbv) (by kernel_rfl)⟩
end Go.Proofs.YtppjinmlfcokaaaGreat
set_option linter.unusedVariables false
set_option maxRecDepth 100000
namespace Go.Proofs.YtppjinmlfcokaaaGreat
open Go.Proofs.YtppjinmlfcokaaaGreat.Av

theorem C8 : Tryz.prog.follows .mixedOrders = true := by kernel_rfl

def MO : Ir Tryz.prog 205 [] [] 1 := ⟨_, _, Tryz.func205, C8, by kernel_rfl, Aj [] Tryz.progTables (by conv => lhs; cbv) (by kernel_rfl)⟩
def MT : Ir Tryz.prog 192 [(7,0)] [] 2 := ⟨_, _, Tryz.func192, C8, by kernel_rfl, Aj [] Tryz.progTables (by conv => lhs; cbv) (by kernel_rfl)⟩
def MP : Ir Tryz.prog 193 [(7,0)] [] 2 := ⟨_, _, Tryz.func193, C8, by kernel_rfl, Aj [] Tryz.progTables (by conv => lhs; cbv) (by kernel_rfl)⟩
def MR : Ir Tryz.prog 194 [(7,0)] [] 2 := ⟨_, _, Tryz.func194, C8, by kernel_rfl, Aj [] Tryz.progTables (by conv => lhs; cbv) (by kernel_rfl)⟩
def MS : Ir Tryz.prog 195 [] [] 2 := ⟨_, _, Tryz.func195, C8, by kernel_rfl, Aj [] Tryz.progTables (by conv => lhs; cbv) (by kernel_rfl)⟩
def MQ : Ir Tryz.prog 196 [] [] 2 := ⟨_, _, Tryz.func196, C8, by kernel_rfl, Aj [] Tryz.progTables (by conv => lhs; cbv) (by kernel_rfl)⟩
def KD : Ir Tryz.prog 191 [] [] 1 := ⟨_, _, Tryz.func191, C8, by kernel_rfl, Aj [] Tryz.progTables (by conv => lhs; cbv) (by kernel_rfl)⟩
def C7 : Ir Tryz.prog 163 [] [] 3 := ⟨_, _, Tryz.func163, C8, by kernel_rfl, Aj [] Tryz.progTables (by conv => lhs; cbv) (by kernel_rfl)⟩
def F4 : Ir Tryz.prog 164 [] [] 1 := ⟨_, _, Tryz.func164, C8, by kernel_rfl, Aj [] Tryz.progTables (by conv => lhs; cbv) (by kernel_rfl)⟩
end Go.Proofs.YtppjinmlfcokaaaGreat
