/-
  THE ABSTRACT TEXTS OF FUNCTIONS (GrowO), printed by irgen.py, and that they are the functions' own. Conditions: none.
-/
import Derived.Test.YtppjinmlfcokaaaGreatProg
import Derived.Test.YtppjinmlfcokaaaGreatJAvDraw
import Derived.Test.YtppjinmlfcokaaaGreatJCopyO
import Derived.Test.YtppjinmlfcokaaaGreatJOTree
import Derived.Test.YtppjinmlfcokaaaGreatJChoW
import Derived.Test.YtppjinmlfcokaaaGreatJFlatT
import Derived.Test.YtppjinmlfcokaaaGreatJJ28
import Derived.Test.YtppjinmlfcokaaaGreatJJ30
import Derived.Test.YtppjinmlfcokaaaGreatJJ07
set_option linter.unusedVariables false
set_option maxRecDepth 100000
namespace Go.Proofs.YtppjinmlfcokaaaGreat
open Go.Proofs.YtppjinmlfcokaaaGreat.Av

theorem Q8 : Tryz.prog.follows .mixedOrders = true := by kernel_rfl

def KZ : Ir Tryz.prog 33 [(25,25),(14,7775),(16,7775),(18,7775),(20,7775),(22,7775), (23, 7777), (40, 7777)] [9999, 2] 2 := ⟨_, _, Tryz.func33, Q8, by kernel_rfl, Ah [10006] Tryz.progTables (by conv => lhs; cbv) (by kernel_rfl)⟩
end Go.Proofs.YtppjinmlfcokaaaGreat
set_option linter.unusedVariables false
set_option linter.unusedSimpArgs false
set_option maxRecDepth 100000
namespace Go.Proofs.YtppjinmlfcokaaaGreat
open Go.RowKit Go.Proofs.YtppjinmlfcokaaaGreat.Av Go.Proofs.YtppjinmlfcokaaaGreat.Ml
open Go.Proofs.YtppjinmlfcokaaaGreat.Av.AVal (av)
open OVal (ov oh on)

theorem Af.Afs {s : St} {T : St → Prop} (i j k : Nat) {v a o : Nat} {b : Box} (hi : Bv s.fr i = .ptr j v a o) (hb : An s.hp j = some b) (hv : b.ver = v)
  (h : ∀ v', Af ⟨(i, .ptr k v' a o) :: s.fr, (k, ⟨v', b.frz, b.ty, b.esz, b.es⟩) :: B1 [j] s.hp⟩ T) : Af s T :=
 Af.AeS (fun v' => (i, .ptr k v' a o) :: s.fr) j k hb hv (fun v' S w μ ρ e hf => L9 hf (by
  have h1 := hf i
  rw [hi] at h1
  generalize ρ i = u at h1 ⊢
  cases h1 with
  | ptr _ _ _ _ b cap esz h2 => exact .ptr k v' a o b cap esz (e.trans h2))) h
theorem Ad7 {α : Type} [AVal α] [OVal α] {nm : Nat} {vs v1 : Nat → Nat} (L : List α) (t : α) : ovL nm (glue (sub nm L.length) v1 vs) 0 (L ++ [t]) = ovL nm vs 0 L ++ [ov (sub nm L.length) v1 t] ∧ ohL nm (glue (sub nm L.length) v1 vs) 0 (L ++ [t]) = ohL nm vs 0 L ++ oh (sub nm L.length) v1 t := by
 have h := Ho (nm := nm) (j := L.length) v1 vs 0 L (by omega)
 rw [Ln, O4, h.1, h.2, Nat.zero_add]
 simp only [ovL, ohL, MA, Lo, List.append_nil, and_self]
structure GoS where
 j : Nat
 u : Nat
 vs : Nat → Nat
set_option maxHeartbeats 4000000 in
theorem Nj (l : List Node) (hk : ∀ i, i < l.length → ∀ k ∈ Bp l i, (i : Int) < k ∧ k < l.length) (hx : Ac.bulk l ≤ 4294967296) : ∀ (f nm i : Nat), i < l.length → l.length - i ≤ f → AU Tryz.prog 33 [.sl (l.map av), .int .i64 i] [] (BW nm (Bx l f i)) := by
 intro f
 induction f with
 | zero => intro nm i hi hf; omega
 | succ f ih =>
  intro nm i hi hf
  have hl := Ag l
  have e := getD_map av l i .top hi
  have em := List.getElem_mem hi
  obtain ⟨b1, b2, b3, b4⟩ := D7 hx em
  have hK : Bp l i = l[i].kids := by simp [Bp, hi]
  have hg : Bx l (f + 1) i = .mk l[i] (l[i].kids.map fun k => Bx l f k.toNat) := by rw [Bx, hK]; simp [hi]
  have hks := hk i hi
  rw [hK] at hks
  obtain ⟨P, hP⟩ : ∃ P, P = sub nm 1 := ⟨_, rfl⟩
  obtain ⟨K, hKK⟩ : ∃ K, K = sub nm 0 := ⟨_, rfl⟩
  have hPg : 10000 ≤ P := by rw [hP]; exact Ci _ _
  have hKg : 10000 ≤ K := by rw [hKK]; exact Ci _ _
  have hKP : ∀ q, InT P q → K ≠ q := fun q hq e => by
   rw [hP] at hq
   rw [hKK] at e
   rw [← e] at hq
   exact BG (i := 0) (j := 1) (by omega) .root hq
  have C := Nr P l[i].Ai b3
  have hn1 : ∀ q, q < 10000 → (q == P) = false := fun q hq => beq_eq_false_iff_ne.2 (by omega)
  have hn2 : ∀ q, q < 10000 → (P = q) = False := fun q hq => eq_false (by omega)
  have hn3 : ∀ q, q < 10000 → (q == K) = false := fun q hq => beq_eq_false_iff_ne.2 (by omega)
  have hn4 : ∀ q, q < 10000 → (K = q) = False := fun q hq => eq_false (by omega)
  have hn5 : ∀ q, q < 10000 → (K == q) = false := fun q hq => beq_eq_false_iff_ne.2 (by omega)
  have hn6 : ∀ q, q < 10000 → (P == q) = false := fun q hq => beq_eq_false_iff_ne.2 (by omega)
  rw [hg]
  clear hg hK
  generalize l[i] = n at *
  refine C9 (Post := fun r hp' => ∃ w u vs vp, r = .ptr 25 w 0 0 ∧ hp' = (25, (⟨w, false, 102, 6, [exB n K u n.kids.length P (vp P)]⟩ : Box)) :: (K, ⟨u, false, 55, 1, ovL K vs 0 (n.kids.map fun k => Bx l f k.toNat)⟩) :: (ohL K vs 0 (n.kids.map fun k => Bx l f k.toNat) ++ oh P vp n.Ai)) (KZ.H rfl ?_) ?_
  case refine_2 =>
   rintro r hp' ⟨w, u, vs, vp, rfl, rfl⟩
   generalize hks2 : (n.kids.map fun k => Bx l f k.toNat) = ks at *
   have hkl : ks.length = n.kids.length := by rw [← hks2, List.length_map]
   refine Af.Afs 0 25 nm (v := w) (a := 0) (o := 0) rfl AZ rfl fun w' => ?_
   obtain ⟨va, hva⟩ : ∃ va : Nat → Nat, va = fun q => if q = nm then w' else if q = K then u else glue P vp vs q := ⟨_, rfl⟩
   have a1 : va nm = w' := by rw [hva]; simp
   have hnK : K ≠ nm := by rw [hKK]; exact fun e => (InT.root (nm := sub nm 0)).ne e
   have hnP : P ≠ nm := by rw [hP]; exact fun e => (InT.root (nm := sub nm 1)).ne e
   have a2 : va K = u := by rw [hva]; simp [hnK]
   have a3 := OVal.FL P va vp n.Ai (fun q hq => by
    rw [hva]
    dsimp only
    rw [if_neg (by rw [hP] at hq; exact hq.ne), if_neg (fun e => hKP q hq e.symm), Hf hq])
   have hvv : ∀ (i : Nat) (ks : List Tr), ovL K va i ks = ovL K vs i ks ∧ ohL K va i ks = ohL K vs i ks := by
    intro i ks
    induction ks generalizing i with
    | nil => exact ⟨rfl, rfl⟩
    | cons t r ih2 =>
     obtain ⟨c, d⟩ := ih2 (i + 1)
     obtain ⟨e1, e2⟩ := OVal.FL (sub K i) va vs t (fun q hq => by
      rw [hva]
      dsimp only
      rw [if_neg (by rw [hKK] at hq; exact hq.up.ne), if_neg hq.ne, DT (fun h => by rw [hP] at h; rw [hKK] at hq; exact BG (i := 0) (j := 1) (by omega) hq.up h)])
     simp only [ovL, ohL, c, d, e1, e2, and_self]
   have a4 : oh nm va (Tr.mk n ks) = (ohL K vs 0 ks ++ [(K, ⟨u, false, 55, 1, ovL K vs 0 ks⟩)]) ++ (oh P vp n.Ai ++ [(nm, ⟨w', false, 102, 6, [exB n K u ks.length P (vp P)]⟩)]) := by
    have a5 : va P = vp P := by have := a3.1; rw [AJ, AJ] at this; exact (AV.row.inj this).2.1
    rw [Oj, ← hKK, ← hP, B8, Dv, (hvv 0 ks).1, (hvv 0 ks).2, a3.2, a1, a2, a5]; rfl
   refine Af.le (t := ⟨[(0, .ptr nm w' 0 0)], oh nm va (Tr.mk n ks)⟩) ⟨va, by rw [AD, a1]; rfl, rfl⟩ (by simp +contextual -dsimp only [↓SD, SU, simprocAttr]) ?_
   rw [a4, hkl]
   have hU : ∀ p ∈ ohL K vs 0 ks ++ oh P vp n.Ai, 10000 ≤ p.1 ∧ p.1 ≠ nm ∧ p.1 ≠ K := fun p hp => by
    rcases List.mem_append.1 hp with h | h
    ·obtain ⟨q, _, hq⟩ := DP h
     exact ⟨hq.ge, fun e => by rw [hKK] at hq; exact hq.up.ne e, hq.ne⟩
    ·have hq := OVal.inh h
     exact ⟨by have := hq.le; omega, fun e => by rw [hP] at hq; exact hq.ne e, fun e => hKP _ hq e.symm⟩
   have hself : Ax (ohL K vs 0 ks ++ oh P vp n.Ai) (ohL K vs 0 ks ++ oh P vp n.Ai) := LC (Cy _ _ _ _) (OVal.self _ _ _) fun p hp q hq e => by
    obtain ⟨j, _, h1⟩ := DP hq
    have h2 := OVal.inh hp
    rw [e, hKK] at h1
    rw [hP] at h2
    exact BG (i := 0) (j := 1) (by omega) h1.up h2
   have hall : ∀ p ∈ ohL K vs 0 ks ++ oh P vp n.Ai, An ((nm, (⟨w', false, 102, 6, [exB n K u n.kids.length P (vp P)]⟩ : Box)) :: B1 [25] ((25, (⟨w, false, 102, 6, [exB n K u n.kids.length P (vp P)]⟩ : Box)) :: (K, ⟨u, false, 55, 1, ovL K vs 0 ks⟩) :: (ohL K vs 0 ks ++ oh P vp n.Ai))) p.1 = some p.2 := fun p hp => by
    obtain ⟨h1, h2, h3⟩ := hU p hp
    rw [BE (fun e => h2 e.symm), BX (by simp; omega), BE (by omega), BE (fun e => h3 e.symm)]
    exact Az.1 hself p hp
   refine Ap.2 ⟨Ap.2 ⟨Az.2 fun p hp => hall p (List.mem_append_left _ hp), ?_, trivial⟩, Ap.2 ⟨Az.2 fun p hp => hall p (List.mem_append_right _ hp), AZ, trivial⟩⟩
   rw [BE (fun e => hnK e.symm), BX (by simp; omega), BE (by omega)]; exact AZ
  simp +contextual -dsimp only [↓SD, SU, simprocAttr, KZ, Aa, hi, e, Ay]
  intro w5
  refine Eh (Af.frz 5 (Af.pur 5 (Af.here ?_)))
  simp +contextual -dsimp only [↓SD, SU, simprocAttr, AK]
  refine As [] C (by simp +contextual -dsimp only [↓SD, SU, simprocAttr]) ?_
  rintro r hp' ⟨vp, rfl, rfl⟩ H hH
  rw [Bs] at hH
  have hoP : Ax H (oh P vp n.Ai) := by rw [hH]; exact Bz (OVal.self _ _ _)
  have hr1 := Aq hoP
  simp +contextual -dsimp only [↓SD, SU, simprocAttr, AJ, hr1, hn1, hn2, false_and, Aa]
  intro w
  obtain ⟨g, hg⟩ : ∃ g : Int → Tr, g = fun k => Bx l f k.toNat := ⟨_, rfl⟩
  rw [← hg]
  have hUP : Ax (oh P vp n.Ai) (oh P vp n.Ai) := OVal.self _ _ _
  have hUPi : ∀ p ∈ oh P vp n.Ai, InT P p.1 := fun p hp => OVal.inh hp
  have hUPg : ∀ p ∈ oh P vp n.Ai, 10000 ≤ p.1 := fun p hp => by have := (hUPi p hp).le; omega
  obtain ⟨W, hW⟩ : ∃ W, W = oh P vp n.Ai := ⟨_, rfl⟩
  rw [← hW] at hoP hUP hUPi hUPg
  refine DL (X := GoS) (fun x => ⟨[(0, .sl (l.map av)), (6, .ptr 25 w 0 0), (27, .sl (n.kids.map av)), (28, .int .i64 n.kids.length), (29, .int .i64 x.j)], (25, ⟨w, false, 102, 6, [.agg [.int .i64 n.kind, .int .i64 n.pos, .int .i64 n.n, .str n.s, .row K x.u x.j, .row P (vp P) n.Ai.length]]⟩) :: (K, ⟨x.u, false, 55, 1, ovL K x.vs 0 ((n.kids.take x.j).map g)⟩) :: (ohL K x.vs 0 ((n.kids.take x.j).map g) ++ W)⟩) (fun x => x.j ≤ n.kids.length) (fun x => n.kids.length - x.j) ?_ ?_
  ·refine Af.FA 25 0 4 K 55 1 rfl rfl Nat.zero_lt_one rfl (by omega) fun v => ?_
   refine Af.le ⟨⟨0, v, fun _ => 0⟩, Nat.zero_le _, rfl⟩ (by simp +contextual -dsimp only [↓SD, SU, simprocAttr]) ?_
   simp +contextual -dsimp only [↓SD, SU, simprocAttr, hn3, hn5, List.take_zero, List.map_nil, ovL, ohL]
   repeat (first | exact hoP | refine Ch ?_ (fun p hp e => by have := hUPg p hp; omega) | refine Ch ?_ (fun p hp e => hKP _ (hUPi p hp) e))
  clear hoP hr1 hH H
  rintro ⟨j, u, vs⟩ hj
  dsimp only at hj ⊢
  by_cases hlt : j < n.kids.length
  ·have e2 := getD_map av n.kids j .top hlt
   have hkj := hks _ (List.getElem_mem hlt)
   have ht : n.kids.take (j + 1) = n.kids.take j ++ [n.kids[j]] := List.take_succ_eq_append_getElem hlt
   obtain ⟨m, hm⟩ : ∃ m : Nat, n.kids[j] = m := ⟨n.kids[j].toNat, by omega⟩
   rw [hm] at e2 hkj ht
   have C2 := ih (sub K j) m (by omega) (by omega)
   have hgm : Bx l f m = g m := by rw [hg]; simp
   rw [hgm] at C2
   have hLl : ((n.kids.take j).map g).length = j := by simp; omega
   have hse := fun v1 => Ad7 (nm := K) (vs := vs) (v1 := v1) ((n.kids.take j).map g) (g m)
   rw [hLl] at hse
   have hmt : (n.kids.take (j + 1)).map g = (n.kids.take j).map g ++ [g m] := by rw [ht, List.map_append]; rfl
   rw [← hmt] at hse
   have hel : (ovL K vs 0 ((n.kids.take j).map g)).length = j := by rw [B2, hLl]
   generalize hLL : (n.kids.take j).map g = L at *
   obtain ⟨U, hU⟩ : ∃ U, U = ohL K vs 0 L := ⟨_, rfl⟩
   have hUU : Ax U U := by rw [hU]; exact Cy _ _ _ _
   have hUi : ∀ p ∈ U, ∃ i, i < j ∧ InT (sub K i) p.1 := fun p hp => by
    rw [hU] at hp
    obtain ⟨q, hq, hm⟩ := GC hp
    rw [Nat.zero_add] at hm
    exact ⟨q, by omega, OVal.inh hm⟩
   rw [← hU] at hse ⊢
   obtain ⟨E, hE⟩ : ∃ E, E = ovL K vs 0 L := ⟨_, rfl⟩
   rw [← hE] at hse hel ⊢
   have hEt : List.take j E = E := List.take_of_length_le (by omega)
   have hself : Ax (U ++ W) (U ++ W) := LC hUU hUP fun p hp q hq e => by
    obtain ⟨i, _, h1⟩ := hUi q hq
    have h2 := hUPi p hp
    rw [e, hKK] at h1
    rw [hP] at h2
    exact BG (i := 0) (j := 1) (by omega) h1.up h2
   have hUW : ∀ p ∈ U ++ W, 10000 ≤ p.1 ∧ K ≠ p.1 ∧ ¬ InT (sub K j) p.1 := fun p hp => by
    rcases List.mem_append.1 hp with h | h
    ·obtain ⟨i, hi, h1⟩ := hUi p h
     exact ⟨h1.ge, fun e => h1.ne e.symm, fun h2 => by have := h1.sib h2; omega⟩
    ·have h1 := hUPi p h
     exact ⟨hUPg p h, hKP _ h1, fun h2 => by rw [hP] at h1; rw [hKK] at h2; exact BG (i := 0) (j := 1) (by omega) h2.up h1⟩
   simp +contextual -dsimp only [↓SD, SU, simprocAttr, Aa, hlt, e2, A7, hn3, hn4]
   refine ⟨?_, ?_⟩
   all_goals
    refine As [] C2 (by simp +contextual -dsimp only [↓SD, SU, simprocAttr]) ?_
    rintro r hp' ⟨v1, rfl, rfl⟩ H hH
    rw [Bs] at hH
    have hKn : ¬ InT (sub K j) K := fun h => h.ne rfl
    have h25 : ¬ InT (sub K j) 25 := fun h => by have := h.ge; omega
    have ho : Ax H (oh (sub K j) v1 (g m)) := by rw [hH]; exact Bz (OVal.self _ _ _)
    have q25 : An H 25 = some ⟨w, false, 102, 6, [.agg [.int .i64 n.kind, .int .i64 n.pos, .int .i64 n.n, .str n.s, .row K u j, .row P (vp P) n.Ai.length]]⟩ := by rw [hH, BR (FE h25)]; exact AZ
    have qK : An H K = some ⟨u, false, 55, 1, E⟩ := by rw [hH, BR (FE hKn), BE (by omega)]; exact AZ
    have hUH : Ax H (U ++ W) := by
     rw [hH]
     exact Fk (Ch (Ch hself (fun p hp => (hUW p hp).2.1)) (fun p hp e => by have := (hUW p hp).1; omega)) fun p hp q hq e => (hUW p hp).2.2 (e ▸ OVal.inh hq)
    obtain ⟨es0, q0⟩ := Ca ho
    simp +contextual -dsimp only [↓SD, SU, simprocAttr, Aa, AD, q25, qK, q0, hel, hEt, hn3, hn5, false_and]
    have hs1 := hse v1
    rw [AD] at hs1
    refine ⟨⟨by omega, by unfold maxLen; omega⟩, fun u' => ⟨by omega, Af.le ⟨⟨j + 1, u', glue (sub K j) v1 vs⟩, ⟨hlt, (by first | omega | (simp only; omega))⟩, rfl⟩ (by simp +contextual -dsimp only [↓SD, SU, simprocAttr, Int.natCast_add]) ?_⟩⟩
    simp only [hs1.1, hs1.2]
    simp +contextual -dsimp only [↓SD, SU, simprocAttr, hn3, hn5]
    have hall : Ax H ((U ++ oh (sub K j) v1 (g m)) ++ W) := Ap.2 ⟨Ap.2 ⟨(Ap.1 hUH).1, ho⟩, (Ap.1 hUH).2⟩
    have hnm : ∀ p ∈ (U ++ oh (sub K j) v1 (g m)) ++ W, 25 ≠ p.1 ∧ K ≠ p.1 := fun p hp => by
     rcases List.mem_append.1 hp with h | h
     ·rcases List.mem_append.1 h with h | h
      ·have := hUW p (List.mem_append_left _ h); exact ⟨by omega, this.2.1⟩
      ·have h1 := OVal.inh h; have := h1.ge; exact ⟨by omega, fun e => h1.ne e.symm⟩
     ·have := hUW p (List.mem_append_right _ h); exact ⟨by omega, this.2.1⟩
    repeat (first | exact hall | refine Ch ?_ (fun p hp => (hnm p hp).1) | refine Ch ?_ (fun p hp => (hnm p hp).2))
  ·obtain rfl : j = n.kids.length := by omega
   rw [List.take_length]
   simp +contextual -dsimp only [↓SD, SU, simprocAttr, Nat.lt_irrefl]
   have hUi : ∀ p ∈ ohL K vs 0 (n.kids.map g), 25 ≠ p.1 ∧ K ≠ p.1 := fun p hp => by
    obtain ⟨q, _, hq⟩ := DP hp
    have := hq.ge
    exact ⟨by omega, fun e => hq.ne e.symm⟩
   refine Af.post ((25, (⟨w, false, 102, 6, [exB n K u n.kids.length P (vp P)]⟩ : Box)) :: (K, ⟨u, false, 55, 1, ovL K vs 0 (n.kids.map g)⟩) :: (ohL K vs 0 (n.kids.map g) ++ W)) ?_
   have hself : Ax (ohL K vs 0 (n.kids.map g) ++ W) (ohL K vs 0 (n.kids.map g) ++ W) := LC (Cy _ _ _ _) hUP fun p hp q hq e => by
    obtain ⟨i, _, h1⟩ := DP hq
    have h2 := hUPi p hp
    rw [e, hKK] at h1
    rw [hP] at h2
    exact BG (i := 0) (j := 1) (by omega) h1.up h2
   have hnm : ∀ p ∈ ohL K vs 0 (n.kids.map g) ++ W, 25 ≠ p.1 ∧ K ≠ p.1 := fun p hp => by
    rcases List.mem_append.1 hp with h | h
    ·exact hUi p h
    ·exact ⟨by have := hUPg p h; omega, hKP _ (hUPi p h)⟩
   simp +contextual -dsimp only [↓SD, SU, simprocAttr, hn3, hn5, exB]
   exact ⟨by repeat (first | exact hself | refine Ch ?_ (fun p hp => (hnm p hp).1) | refine Ch ?_ (fun p hp => (hnm p hp).2)), w, u, vs, vp, rfl, by rw [hW]⟩
theorem NI {α : Type} [AVal α] [OVal α] {g : Nat} {vs : Nat → Nat} {y : α} {hp H : Hp} (hg : 10000 ≤ g) (hH : H = oh g vs y ++ hp) : ∀ q, q < 10000 → An H q = An hp q := fun q hq => by
 rw [hH, BR (FE fun h => by have := h.le; omega)]
theorem MK {α : Type} [AVal α] [OVal α] {g : Nat} {vs : Nat → Nat} {y y' : α} {hp H : Hp} (hg : 10000 ≤ g) (hH : H = oh g vs y' ++ B1 (on g y) hp) : ∀ q, q < 10000 → An H q = An hp q := fun q hq => by
 rw [hH, Js (fun h => by have := h.le; omega)]
theorem FT {nm : Nat} {vs : Nat → Nat} {y : Program} {hp H : Hp} (hH : H = oh nm vs y ++ hp) : ∀ q, q < 10000 → An H q = An hp q := fun q hq => by
 rw [hH, BP, BR (fun p hp e => by
  rcases List.mem_append.1 hp with h | h
  ·have := (OVal.inh h).ge; omega
  ·have := (OVal.inh h).ge; omega)]
theorem KC {nm j : Nat} {b : Box} {vs : Nat → Nat} {y : Program} {hp : Hp} (hz : Ax hp (oh nm vs y)) (hj : j < 10000) : Ax ((j, b) :: hp) (oh nm vs y) := by
 rw [BP] at hz ⊢
 exact Ch hz (fun q hq e => by
  rcases List.mem_append.1 hq with h | h
  ·have := (OVal.inh h).ge; omega
  ·have := (OVal.inh h).ge; omega)
end Go.Proofs.YtppjinmlfcokaaaGreat
set_option linter.unusedVariables false
set_option linter.unusedSimpArgs false
set_option maxRecDepth 100000
namespace Go.Proofs.YtppjinmlfcokaaaGreat
open Go.RowKit Go.Proofs.YtppjinmlfcokaaaGreat.Av Go.Proofs.YtppjinmlfcokaaaGreat.Ml
open Go.Proofs.YtppjinmlfcokaaaGreat.Av.AVal (av)
open OVal (ov oh on)

set_option maxHeartbeats 4000000 in
theorem LO (nm : Nat) (p : Program) (hx : Ac.bulk p ≤ 4294967296) : AU Tryz.prog 25 [av p] [] (BW nm (Dh AR p)) := by
 obtain ⟨q1, q2, q3, q4⟩ := Ck hx
 have C := ER p hx
 rw [Ad] at C
 cases hb : Db p with
 | false =>
  rw [hb] at C
  rw [Dh, if_neg (by rw [hb]; simp)]
  refine C9 (Post := fun r hp' => r = .agg [.Aj, .Aj] ∧ hp' = []) (EP.H rfl ?_) ?_
  case refine_2 =>
   rintro r hp' ⟨rfl, rfl⟩
   refine Af.Vz 0 0 (sub nm 0) 72 3 rfl rfl fun u => ?_
   refine Af.Vz 0 1 (sub nm 1) 49 6 rfl rfl fun v => ?_
   have hne : sub nm 1 ≠ sub nm 0 := fun e => by have := (Em e).2; omega
   refine Af.le (t := ⟨[(0, .agg [.row (sub nm 0) u 0, .row (sub nm 1) v 0])], [(sub nm 0, ⟨u, false, 72, 3, []⟩), (sub nm 1, ⟨v, false, 49, 6, []⟩)]⟩) ⟨fun q => if q = sub nm 0 then u else v, ?_, ?_⟩ (by simp +contextual -dsimp only [↓SD, SU, simprocAttr]) ⟨?_, AZ, trivial⟩
   ·rw [AA, if_pos rfl, if_neg hne]; rfl
   ·rw [BP, B8, B8, EL, Dv, Dv, if_pos rfl, if_neg hne]; rfl
   ·rw [BE hne]; exact AZ
  simp +contextual -dsimp (maxSteps := 2000000) only [↓SD, SU, simprocAttr, EP, Ad]
  intro v2
  refine Ab _ C ?_
  simp +contextual -dsimp (maxSteps := 2000000) only [↓SD, SU, simprocAttr]
  refine Af.post [] ?_
  simp +contextual -dsimp (maxSteps := 2000000) only [↓SD, SU, simprocAttr]
 | true =>
  rw [hb] at C
  obtain ⟨h1, h2, h3, h4, h5, h6⟩ := D5 hx hb
  obtain ⟨f1, f2, f3, f4, f5⟩ := CJ hx hb
  have hk : ∀ i, i < p.nodes.length → ∀ k ∈ Bp p.nodes i, (i : Int) < k ∧ k < p.nodes.length := fun i hi k hk => DM f3 hi hk
  obtain ⟨g, hg⟩ : ∃ g, g = sub nm 2 := ⟨_, rfl⟩
  have hgg : 10000 ≤ g := by rw [hg]; exact Ci _ _
  have hge2 : ∀ q, q < 10000 → (q == g) = false := fun q hq => beq_eq_false_iff_ne.2 (by omega)
  have hg3 : ¬ InT g 3 := fun h => by have := h.le; omega
  have G := Nj p.nodes hk q2 p.nodes.length g 0 (by omega) (by omega)
  rw [show Bx p.nodes p.nodes.length 0 = A2 p.nodes 0 from rfl, show ((0 : Nat) : Int) = 0 from rfl] at G
  have hrk := LV hx hb
  have hsz : (A2 p.nodes 0).size ≤ 600 := by have := h4; omega
  have hR := Lj (R := AR) (fun t h => Gy h) _ hrk
  have RW := Pu AR 57 (fun t h => Gy h) AbD _ hrk hsz g hgg
  have PO := Gz nm p.types (Bh AR (A2 p.nodes 0)) (UR _ hR.1) (by omega) q1
  have hlen := Di (Bh AR (A2 p.nodes 0)) 0
  rw [Dh, if_pos hb]
  refine EP.H rfl ?_
  have hle : (BF 0 (Bh AR (A2 p.nodes 0))).length ≤ 600 := by omega
  clear hlen
  have hlt : ¬ (600 < ((BF 0 (Bh AR (A2 p.nodes 0))).length : Int)) := by omega
  generalize BF 0 (Bh AR (A2 p.nodes 0)) = L at *
  generalize Bh AR (A2 p.nodes 0) = T' at *
  generalize A2 p.nodes 0 = T at *
  simp +contextual -dsimp (maxSteps := 2000000) only [↓SD, SU, simprocAttr, EP, Ad]
  intro v2
  refine Ab _ C ?_
  simp +contextual -dsimp (maxSteps := 2000000) only [↓SD, SU, simprocAttr]
  refine As [] G (by simp +contextual -dsimp only [↓SD, SU, simprocAttr]) ?_
  rintro r hp' ⟨vs, rfl, rfl⟩ H hH
  rw [Bs] at hH
  have o1 := NI hgg hH
  have l1 : Ax H (oh g vs T) := by rw [hH]; exact Bz (OVal.self _ _ _)
  have h2a : An H 2 = some (⟨v2, false, 31, 2, [.agg [.Aj, .Aj]]⟩ : Box) := (o1 2 (by omega)).trans (by simp [An])
  obtain ⟨es0, b0⟩ := Ca l1
  have RW := RW vs
  rw [AD] at RW
  simp +contextual -dsimp (maxSteps := 2000000) only [↓SD, SU, simprocAttr, AD, b0, hge2, false_and]
  refine As (on g T) RW (Dd l1) ?_
  rintro r hp2 ⟨v1, rfl, rfl⟩ H2 hH2
  have o2 := MK hgg hH2
  have l2 := Cb hH2
  have h2b : An H2 2 = some (⟨v2, false, 31, 2, [.agg [.Aj, .Aj]]⟩ : Box) := (o2 2 (by omega)).trans (by simp [An, h2a])
  obtain ⟨es1, b1⟩ := Ca l2
  simp +contextual -dsimp (maxSteps := 2000000) only [↓SD, SU, simprocAttr, AD, b1, hge2, false_and]
  refine Dp (on g T') PO (Aw (by simp +contextual -dsimp only [↓SD, SU, simprocAttr]) (Aw (EZ (AD g v1 T').symm l2) rfl)) ?_
  rintro r hp3 ⟨v4, rfl, rfl⟩
  refine ⟨⟨GA _ _ _, Fh _ _ _⟩, ?_⟩
  intro H3 hH3
  have o3 := FT hH3
  have l3 : Ax H3 (oh nm v4 (⟨p.types, L⟩ : Program)) := by rw [hH3]; exact Bz (OVal.self _ _ _)
  have h2c : An H3 2 = some (⟨v2, false, 31, 2, [.agg [.Aj, .Aj]]⟩ : Box) := (o3 2 (by omega)).trans (by simp [An, h2b])
  have l3' := l3
  rw [BP, Ap] at l3'
  have r0 := Aq l3'.1
  have r1 := Aq l3'.2
  clear o1 o2 o3 l1 l2 b0 b1 hH hH2 hH3 RW
  simp +contextual -dsimp (maxSteps := 2000000) only [↓SD, SU, simprocAttr, AA, h2c, r0, r1, AQ, false_and]
  refine Af.post (oh nm v4 (⟨p.types, L⟩ : Program)) ?_
  simp +contextual -dsimp (maxSteps := 2000000) only [↓SD, SU, simprocAttr, r0, r1, AQ, false_and]
  exact ⟨KC l3 (by omega), v4, by rw [AA], rfl⟩
end Go.Proofs.YtppjinmlfcokaaaGreat
set_option linter.unusedVariables false
set_option linter.unusedSimpArgs false
namespace Go.Proofs.YtppjinmlfcokaaaGreat
open Go.RowKit Go.Proofs.YtppjinmlfcokaaaGreat.Av
open Go.Proofs.YtppjinmlfcokaaaGreat.Av.AVal (av)

def wr (n : Int) : Int := (n + 4611686018427387904) % 9223372036854775808 - 4611686018427387904
theorem GJ (n : Int) : -4611686018427387904 ≤ wr n ∧ wr n ≤ 4611686018427387903 := by unfold wr; omega
theorem OV {a b : Int} (h : ∃ k, a = b + 9223372036854775808 * k) : wr a = wr b := by
 obtain ⟨k, rfl⟩ := h
 unfold wr
 rw [show b + 9223372036854775808 * k + 4611686018427387904 = (b + 4611686018427387904) + 9223372036854775808 * k by omega, Int.add_mul_emod_self_left]
theorem Ta (a : Int) : ∃ k, wr a = a + 9223372036854775808 * k := ⟨-((a + 4611686018427387904) / 9223372036854775808), by unfold wr; omega⟩
theorem Xs (a b : Int) : wr (wr a + wr b) = wr (a + b) := by
 obtain ⟨k, hk⟩ := Ta a
 obtain ⟨l, hl⟩ := Ta b
 exact OV ⟨k + l, by omega⟩
theorem AeK (a b : Int) : wr (wr a - wr b) = wr (a - b) := by
 obtain ⟨k, hk⟩ := Ta a
 obtain ⟨l, hl⟩ := Ta b
 exact OV ⟨k - l, by omega⟩
def PY (b : Int) (i : Nat) : Int := b % 2 ^ i
theorem Abg (b : Int) : PY b 0 = 0 := by simp [PY, Int.emod_one]
theorem Abh (b : Int) (i : Nat) : PY b (i + 1) = PY b i + 2 ^ i * (b / 2 ^ i % 2) := by
 unfold PY
 have hp : (0 : Int) < 2 ^ i := Int.pow_pos (by decide)
 have e : (2 : Int) ^ (i + 1) = 2 ^ i * 2 := Int.pow_succ 2 i
 have h1 := Int.mul_ediv_add_emod b (2 ^ i)
 have h2 := Int.mul_ediv_add_emod (b / 2 ^ i) 2
 have h3 := Int.emod_nonneg b (Int.ne_of_gt hp)
 have h4 := Int.emod_lt_of_pos b hp
 have h5 : 0 ≤ b / 2 ^ i % 2 := Int.emod_nonneg _ (by decide)
 have h6 : b / 2 ^ i % 2 < 2 := Int.emod_lt_of_pos _ (by decide)
 generalize hq : b / 2 ^ i / 2 = q at *
 generalize hr : b / 2 ^ i % 2 = r at *
 generalize hm : b % 2 ^ i = m at *
 have h7 : b = 2 ^ (i + 1) * q + (m + 2 ^ i * r) := by
  rw [e, ← h1, ← h2, Int.mul_add, Int.mul_assoc]; omega
 rw [h7, Int.add_comm, Int.add_mul_emod_self_left]
 refine Int.emod_eq_of_lt ?_ ?_
 ·have := Int.mul_nonneg (Int.le_of_lt hp) h5; omega
 ·rw [e]
  rcases (by omega : r = 0 ∨ r = 1) with rfl | rfl
  ·omega
  ·omega
theorem GM (a b : Int) (i : Nat) (out x : Int) (ho : out = wr (a * PY b i)) (hx : x = wr (a * 2 ^ i)) : (if b / 2 ^ i % 2 = 1 then wr (out + x) else out) = wr (a * PY b (i + 1)) ∧ wr (x + x) = wr (a * 2 ^ (i + 1)) := by
 subst ho hx
 refine ⟨?_, ?_⟩
 ·rw [Abh]
  split
  ·rename_i h
   rw [h, Int.mul_one, Xs, ← Int.mul_add]
  ·rename_i h
   have : b / 2 ^ i % 2 = 0 := by have := Int.emod_nonneg (b / 2 ^ i) (show (2 : Int) ≠ 0 by decide); have := Int.emod_lt_of_pos (b / 2 ^ i) (show (0 : Int) < 2 by decide); omega
   rw [this, Int.mul_zero, Int.add_zero]
 ·rw [Xs]
  congr 1
  rw [Int.pow_succ, ← Int.mul_assoc]
  omega
theorem Aeb (a b : Int) : wr (a * PY b 63) = wr (a * b) := by
 refine OV ⟨-(a * (b / 2 ^ 63)), ?_⟩
 unfold PY
 have h1 := Int.mul_ediv_add_emod b (2 ^ 63)
 have e : (2 : Int) ^ 63 = 9223372036854775808 := by decide
 rw [e] at h1 ⊢
 have h2 : b % 9223372036854775808 = b - 9223372036854775808 * (b / 9223372036854775808) := by omega
 rw [h2, Int.mul_sub, Int.mul_neg, Int.sub_eq_add_neg]
 congr 2
 rw [Int.mul_left_comm]
def FD (s : ByteArray) (a b : Int) : Int × Bool × Bool :=
 if s = bs [43] then (wr (a + b), false, true)
 else if s = bs [45] then (wr (a - b), false, true)
 else if s = bs [42] then (wr (a * b), false, true)
 else if s = bs [47] then (if wr b = 0 then (0, false, false) else (wr ((wr a).tdiv (wr b)), false, true))
 else if s = bs [37] then (if wr b = 0 then (0, false, false) else ((wr a).tmod (wr b), false, true))
 else if s = bs [61] then (if a = b then 1 else 0, true, true)
 else if s = bs [60, 62] then (if a = b then 0 else 1, true, true)
 else if s = bs [60] then (if a < b then 1 else 0, true, true)
 else (if a ≤ b then 1 else 0, true, true)
def GK (v : Int) : ByteArray := if v = 1 then bs [116, 114, 117, 101] else bs [102, 97, 108, 115, 101]
theorem Th (x y : Int) (hx : -4611686018427387904 ≤ x ∧ x ≤ 4611686018427387903) : -4611686018427387904 ≤ x.tmod y ∧ x.tmod y ≤ 4611686018427387903 := by
 have h1 := Int.mul_tdiv_add_tmod x y
 rcases Int.lt_or_le x 0 with h | h
 ·have h2 : x.tmod y = -((-x).tmod y) := by rw [Int.neg_tmod]; omega
  have h3 : 0 ≤ (-x).tmod y := Int.tmod_nonneg _ (by omega)
  have h4 : (-x).tmod y ≤ -x := by
   have := Int.natAbs_tdiv_le_natAbs (-x) y
   by_cases hy : y = 0
   ·rw [hy, Int.tmod_zero]; exact Int.le_refl _
   ·have h5 := Int.mul_tdiv_add_tmod (-x) y
    have h6 : 0 ≤ y * (-x).tdiv y := by
     rcases Int.lt_or_le y 0 with h7 | h7
     ·have : (-x).tdiv y ≤ 0 := Int.tdiv_nonpos_of_nonneg_of_nonpos (by omega) (by omega)
      exact Int.mul_nonneg_of_nonpos_of_nonpos (by omega) this
     ·exact Int.mul_nonneg h7 (Int.tdiv_nonneg (by omega) h7)
    omega
  omega
 ·have h3 : 0 ≤ x.tmod y := Int.tmod_nonneg _ h
  have h6 : 0 ≤ y * x.tdiv y := by
   rcases Int.lt_or_le y 0 with h7 | h7
   ·have : x.tdiv y ≤ 0 := Int.tdiv_nonpos_of_nonneg_of_nonpos h (by omega)
    exact Int.mul_nonneg_of_nonpos_of_nonpos (by omega) this
   ·exact Int.mul_nonneg h7 (Int.tdiv_nonneg h h7)
  omega
theorem Aco {s : ByteArray} {a b : Int} (h : (FD s a b).2.1 = false) : -4611686018427387904 ≤ (FD s a b).1 ∧ (FD s a b).1 ≤ 4611686018427387903 := by
 unfold FD at h ⊢
 have h0 : (-4611686018427387904 : Int) ≤ 0 ∧ (0 : Int) ≤ 4611686018427387903 := by decide
 repeat' (split at h)
 all_goals first | exact GJ _ | exact h0 | exact Th _ _ (GJ _) | (cases h; done) | skip
 all_goals simp_all
 all_goals first | exact GJ _ | exact Th _ _ (GJ _)
end Go.Proofs.YtppjinmlfcokaaaGreat
