/-
 THE ARMS OF A TREE OF QUESTIONS, and how deep it is: the plain text. Conditions: none.
-/
import Derived.Test.YteeiaaogmjbcjaaGreatUJ19
import Derived.Test.YteeiaaogmjbcjaaGreatUJ13
import Derived.Test.YteeiaaogmjbcjaaGreatUJ14
import Derived.Test.YteeiaaogmjbcjaaGreatProg
import Derived.Test.YteeiaaogmjbcjaaGreatUAvDraw
import Derived.Test.YteeiaaogmjbcjaaGreatUJ05
set_option linter.unusedVariables false
set_option linter.unusedSimpArgs false
namespace Go.Proofs.YteeiaaogmjbcjaaGreat
open Go.RowKit Go.Proofs.YteeiaaogmjbcjaaGreat.Av Go.Proofs.YteeiaaogmjbcjaaGreat.Ml
open Go.Proofs.YteeiaaogmjbcjaaGreat.Av.AVal (av)

theorem Xn (a : List Ask) : (EI a).Pairwise fun x y => x < y := by
 unfold EI
 split
 ·rw [Ta]
  have := Srt.QH MQ (Cb a) [] List.Pairwise.nil
  exact this.imp fun h => by unfold ltI at h; exact of_decide_eq_true h
 ·exact List.Pairwise.nil
theorem NL {a : List Ask} (h : E4 a = true) (x : Int) : x ∈ EI a ↔ x ∈ Cb a := by
 unfold EI
 rw [if_pos h, Ta, Srt.SP]
 simp
theorem S4 (a b : List Ask) : Cb (a ++ b) = Cb a ++ Cb b := by unfold Cb; rw [List.filter_append, List.map_append]
theorem K7 (x : Int) : Cb [⟨x, [], 0, 0, bs [], false, 0, 0⟩] = [x] := by unfold Cb; simp
theorem S3 {a : Ask} (l : List Ask) (h : ¬ a.kind = 0) : Cb (a :: l) = Cb l := by unfold Cb; rw [List.filter_cons_of_neg (by simpa using h)]
theorem KU : ∀ (f base : Nat) (rows : List BI), WfR rows → ∀ x ∈ Cb (A9 f base rows), x = -1 ∨ ∃ r ∈ rows, x = r.arm
 | 0, base, rows, _, x, hx => by rw [A9] at hx; cases hx
 | f + 1, base, rows, hw, x, hx => by
  rw [A9] at hx
  split at hx
  ·cases hx
  ·cases rows with
   | nil =>
    rw [CE, K7] at hx
    exact .inl (List.mem_singleton.1 hx)
   | cons r rs =>
    rw [CE] at hx
    cases ht : r.AA with
    | nil =>
     rw [ht, DZ, K7] at hx
     exact .inr ⟨r, by simp, List.mem_singleton.1 hx⟩
    | cons t ts =>
     rw [ht, DZ, S3 _ (hw r (by simp) t (by rw [ht]; simp)).1, S4] at hx
     rcases List.mem_append.1 hx with hx | hx
     ·rcases KU f _ _ (YM hw t) x hx with h | ⟨r', hr', rfl⟩
      ·exact .inl h
      ·unfold BP at hr'
       obtain ⟨r2, hr2, rfl⟩ := List.mem_map.1 hr'
       exact .inr ⟨r2, (List.mem_filter.1 hr2).1, rfl⟩
     ·rcases KU f _ _ (Ace hw t) x hx with h | ⟨r', hr', rfl⟩
      ·exact .inl h
      ·exact .inr ⟨r', (List.mem_filter.1 hr').1, rfl⟩
def Dst (l : List Tst) : Prop := l.Pairwise fun x y => x.path ≠ y.path
theorem MA : ∀ (f base : Nat) (r : BI) (rs : List BI), wtR (r :: rs) < f → base + (A9 f base (r :: rs)).length ≤ 400 → WfR (r :: rs) → Dst r.AA → r.arm ∈ Cb (A9 f base (r :: rs))
 | 0, base, r, rs, hw, _, _, _ => by omega
 | f + 1, base, r, rs, hw, hb, hwf, hd => by
  rw [A9, if_neg (by omega), CE] at hb ⊢
  cases ht : r.AA with
  | nil => rw [DZ, K7]; simp
  | cons t ts =>
   rw [ht, DZ] at hb
   rw [ht] at hd
   rw [DZ, S3 _ (hwf r (by simp) t (by rw [ht]; simp)).1, S4]
   have h1 := P9 (rs := rs) ht
   have hd1 := List.pairwise_cons.1 hd
   have hc : r.AA.any (CR t) = false := by
    rw [ht, List.any_cons]
    unfold CR
    rw [LM, Bool.not_true, Bool.and_false, Bool.false_or]
    refine List.any_eq_false.2 fun x hx => ?_
    have := hd1.1 x hx
    unfold Cf
    simp [Ne.symm this]
   have hy : BP (r :: rs) t = ⟨r.AA.filter fun x => !Cf x t, r.arm⟩ :: BP rs t := by
    unfold BP
    rw [List.filter_cons_of_pos (by simp [hc]), List.map_cons]
   rw [hy] at h1 hb ⊢
   refine List.mem_append.2 (.inl ?_)
   have hwy := YM hwf t
   rw [hy] at hwy
   simp only [List.length_cons, List.length_append] at hb
   exact MA f (base + 1) ⟨r.AA.filter fun x => !Cf x t, r.arm⟩ (BP rs t) (by omega) (by omega) hwy (by
    rw [ht]
    exact List.Pairwise.filter _ hd)
theorem Q8 {ks : List Px} (ih : ∀ k ∈ ks, ∀ p, Dst (Bu k p) ∧ ∀ t ∈ Bu k p, ∃ s, t.path = p ++ s) : ∀ p i, Dst (AR ks p i) ∧ ∀ t ∈ AR ks p i, ∃ (j : Nat) (s : List Int), i ≤ j ∧ t.path = p ++ (j : Int) :: s := by
 induction ks with
 | nil => intro p i; rw [AR]; exact ⟨List.Pairwise.nil, fun t ht => by cases ht⟩
 | cons k ks ihk =>
  intro p i
  rw [AR]
  obtain ⟨a1, a2⟩ := ih k (by simp) (p ++ [(i : Int)])
  obtain ⟨b1, b2⟩ := ihk (fun k hk => ih k (by simp [hk])) p (i + 1)
  refine ⟨List.pairwise_append.2 ⟨a1, b1, fun x hx y hy e => ?_⟩, fun t ht => ?_⟩
  ·obtain ⟨s, hs⟩ := a2 x hx
   obtain ⟨j, s', hj, hs'⟩ := b2 y hy
   rw [hs, hs', List.append_assoc] at e
   have := List.append_cancel_left e
   simp only [List.singleton_append, List.cons.injEq] at this
   omega
  ·rcases List.mem_append.1 ht with ht | ht
   ·obtain ⟨s, hs⟩ := a2 t ht
    exact ⟨i, s, Nat.le_refl _, by rw [hs, List.append_assoc]; rfl⟩
   ·obtain ⟨j, s, hj, hs⟩ := b2 t ht
    exact ⟨j, s, by omega, hs⟩
theorem Um : ∀ q p, Dst (Bu q p) ∧ ∀ t ∈ Bu q p, ∃ s, t.path = p ++ s := Px.ind fun h ks ih p => by
 rw [Bu]
 split
 ·exact ⟨List.Pairwise.nil, fun t ht => by cases ht⟩
 ·obtain ⟨a1, a2⟩ := Q8 ih p 0
  refine ⟨List.pairwise_cons.2 ⟨fun y hy e => ?_, a1⟩, fun t ht => ?_⟩
  ·obtain ⟨j, s, _, hs⟩ := a2 y hy
   dsimp only at e
   rw [hs] at e
   have := congrArg List.length e
   simp at this
  ·rcases List.mem_cons.1 ht with rfl | ht
   ·exact ⟨[], by simp⟩
   ·obtain ⟨j, s, _, hs⟩ := a2 t ht
    exact ⟨_, hs⟩
theorem OO : ∀ (i : Nat) (l : List Px), ∀ r ∈ A8 i l, (i : Int) ≤ r.arm ∧ r.arm < (i : Int) + l.length
 | i, [], r, hr => by rw [A8] at hr; cases hr
 | i, q :: l, r, hr => by
  rw [A8] at hr
  rcases List.mem_cons.1 hr with rfl | hr
  ·dsimp only; simp only [List.length_cons]; omega
  ·have := OO (i + 1) l r hr
   simp only [List.length_cons]; omega
theorem Yt {l : List Pat} {a : List Ask} (h : Dd l = some a) : (∀ x ∈ EI a, -1 ≤ x ∧ x < l.length) ∧ (0 : Int) ∈ EI a := by
 obtain ⟨h1, h2, h3, h4⟩ := PQ h
 have hr := Hj h
 have ha := KT 0 _ (Ry h1)
 have hwf : WfR (A8 0 (l.map fun q => B6 q.nodes 0)) := fun r hr t ht => ((ha r hr).2 t ht).1
 refine ⟨fun x hx => ?_, ?_⟩
 ·rw [NL hr, h3] at hx
  rcases KU _ _ _ hwf x hx with rfl | ⟨r, hr, rfl⟩
  ·omega
  ·have := OO 0 _ r hr
   rw [List.length_map] at this
   omega
 ·rw [NL hr, h3]
  cases l with
  | nil => exact absurd rfl h2
  | cons q l =>
   rw [List.map_cons, A8] at h3 hwf ⊢
   exact MA _ 0 _ _ (by omega) (by rw [← h3]; omega) hwf (Um _ []).1
theorem Pz {a : List Ask} (h : E4 a = true) : ∀ m, m ≤ a.length → ∀ j, j < a.length → (dps a m).getD j 0 ≤ (a.length : Int) - 1 - j
 | 0, _, j, hj => by
  have := (QM a 0 j).2
  omega
 | m + 1, hm, j, hj => by
  have ih := Pz h m (by omega)
  simp only [dps]
  have hi : a.length - 1 - m < a.length := by omega
  rw [B5 hi]
  split
  ·exact ih j hj
  ·rename_i hk
   have hb := Xm ((KF h).1 _ hi) hk
   generalize a[a.length - 1 - m] = n at *
   have i1 := ih n.yes.toNat (by omega)
   have i2 := ih n.no.toNat (by omega)
   have i3 := ih j hj
   by_cases hj2 : a.length - 1 - m = j
   ·subst hj2
    rw [List.getD_eq_getElem?_getD, List.getElem?_set_self (by rw [QL]; exact hi), Option.getD_some]
    omega
   ·rw [List.getD_eq_getElem?_getD, List.getElem?_set_ne hj2, ← List.getD_eq_getElem?_getD]
    exact i3
theorem U3 {a : List Ask} (h : E4 a = true) : Nz a < a.length := by
 unfold Nz
 rw [if_pos h]
 have h1 := (KF h).2.1
 have := Pz h a.length (Nat.le_refl _) 0 (by omega)
 omega
end Go.Proofs.YteeiaaogmjbcjaaGreat
set_option linter.unusedVariables false
set_option maxRecDepth 100000
namespace Go.Proofs.YteeiaaogmjbcjaaGreat
open Go.Proofs.YteeiaaogmjbcjaaGreat.Av

theorem Hh : Tryz.prog.follows .mixedOrders = true := by kernel_rfl

def D6 : Ir Tryz.prog 22 [(17, 7777), (26, 7777), (32, 7777), (42, 7777), (9, 7777)] [9999] 2 := ⟨_, _, Tryz.func22, Hh, by kernel_rfl, Az [10007] Tryz.progTables (by conv => lhs; cbv) (by kernel_rfl)⟩
def FN : Ir Tryz.prog 23 [(15, 7777), (51, 7777), (65, 7777)] [9999] 3 := ⟨_, _, Tryz.func23, Hh, by kernel_rfl, Az [] Tryz.progTables (by conv => lhs; cbv) (by kernel_rfl)⟩
def FO : Ir Tryz.prog 27 [(13,13),(32,32), (40, 7777)] [9999, 10] 2 := ⟨_, _, Tryz.func27, Hh, by kernel_rfl, Az [] Tryz.progTables (by conv => lhs; cbv) (by kernel_rfl)⟩
end Go.Proofs.YteeiaaogmjbcjaaGreat
set_option linter.unusedVariables false
namespace Go.Proofs.YteeiaaogmjbcjaaGreat
open Go.RowKit Go.Proofs.YteeiaaogmjbcjaaGreat.Av
open Go.Proofs.YteeiaaogmjbcjaaGreat.Av.AVal (av)

theorem Ai.Abe {fr : List (Nat × AV)} {T : St → Prop} : ∀ (ks : List Nat) {hp : Hp}, Ai ⟨fr, B9 ks hp⟩ T → Ai ⟨fr, hp⟩ T
 | [], _, h => h
 | k :: r, _, h => Ai.frz k (Ai.Abe r h)
end Go.Proofs.YteeiaaogmjbcjaaGreat
set_option linter.unusedVariables false
set_option linter.unusedSimpArgs false
namespace Go.Proofs.YteeiaaogmjbcjaaGreat
open Go.RowKit Go.Proofs.YteeiaaogmjbcjaaGreat.Av
open Go.Proofs.YteeiaaogmjbcjaaGreat.Av.AVal (av)
open AVal (av)
open OVal (ov oh on)

theorem Av.VR.Ui {S : Nat → Prop} {w : World} {μ : Mu} {u : Value} {cs : List AV} {off : Nat} {y : AV} (h : VR S w μ u (.tup cs)) (hy : ∀ x v, cs[off]? = some x → VR S w μ v x → VR S w μ v y) : VR S w μ u (.tup (cs.set off y)) := by
 cases h with
 | tup vs _ hl hh =>
  refine .tup vs _ (by simpa using hl) (fun q v x p e => ?_)
  rw [List.getElem?_set] at e
  split at e
  ·rename_i hq
   subst hq
   split at e
   ·rename_i hlt
    cases e
    exact hy _ v (List.getElem?_eq_getElem hlt) (hh off v _ p (List.getElem?_eq_getElem hlt))
   ·cases e
  ·exact hh q v x p e
theorem Ai.Ac2 {s : St} {T : St → Prop} (i o2 off j k : Nat) {v n : Nat} {ts cs : List AV} {b : Box} (hi : Ba s.fr i = .tup ts) (ht : ts[o2]? = some (.agg cs)) (hc : cs[off]? = some (.row j v n)) (hb : Aw s.hp j = some b) (hv : b.ver = v)
  (h : ∀ v', Ai ⟨(i, .tup (ts.set o2 (.agg (cs.set off (.row k v' n))))) :: s.fr, (k, ⟨v', b.frz, b.ty, b.esz, b.es⟩) :: BS [j] s.hp⟩ T) : Ai s T :=
 Ai.Aci (fun v' => (i, .tup (ts.set o2 (.agg (cs.set off (.row k v' n))))) :: s.fr) j k hb hv (fun v' S w μ a e hf => QD hf (Av.VR.Ui (hi ▸ hf i) fun x u hx hu => by
  rw [ht] at hx; cases hx
  exact hu.Vh rfl fun x u hx hu => by rw [hc] at hx; cases hx; exact hu.ren e)) h
theorem Ai.Ac5 {s : St} {T : St → Prop} (i o2 off k : Nat) (ty : TypeId) (esz : Nat) {ts cs : List AV} (hi : Ba s.fr i = .tup ts) (ht : ts[o2]? = some (.agg cs)) (hc : cs[off]? = some .Au) (h : ∀ v, Ai ⟨(i, .tup (ts.set o2 (.agg (cs.set off (.row k v 0))))) :: s.fr, (k, ⟨v, false, ty, esz, []⟩) :: s.hp⟩ T) : Ai s T :=
 Ai.Acu (fun v => (i, .tup (ts.set o2 (.agg (cs.set off (.row k v 0))))) :: s.fr) k ty esz (fun v S w μ a e hf => QD hf (Av.VR.Ui (hi ▸ hf i) fun x u hx hu => by
  rw [ht] at hx; cases hx
  exact hu.Vh rfl fun x u hx hu => by rw [hc] at hx; cases hx; exact hu.new e)) h
theorem Ai.RH {s : St} {T : St → Prop} (k : Nat) {b : Box} (hb : Aw s.hp k = some b) (h : Ai ⟨s.fr, (k, ⟨b.ver, b.frz, b.ty, b.esz, b.es.map (AV.pur s.hp)⟩) :: s.hp⟩ T) : Ai s T := by
 refine ⟨?_⟩
 rintro E nt a w ⟨hd, hn, S, μ, hw, hf⟩
 have hget' : ∀ j bj, Aw ((k, (⟨b.ver, b.frz, b.ty, b.esz, b.es.map (AV.pur s.hp)⟩ : Box)) :: s.hp) j = some bj → ∃ bo, Aw s.hp j = some bo ∧ bo.ver = bj.ver ∧ bo.frz = bj.frz := fun j bj hj => by
  simp only [Aw] at hj
  split at hj
  ·rename_i e; subst e; cases hj; exact ⟨b, hb, rfl, rfl⟩
  ·exact ⟨bj, hj, rfl, rfl⟩
 refine h.run E nt a w ⟨hd, hn, S, μ, ⟨hw.ext, hw.lt, hw.base, hw.new, hw.fresh, fun j bj hj => ?_, ?_, hw.le⟩, hf⟩
 ·simp only [Aw] at hj
  split at hj
  ·rename_i e; subst e; cases hj
   obtain ⟨B0, h0, hz0, hh⟩ := hw.box k b hb
   refine ⟨B0, h0, hz0, ?_⟩
   cases hbl : B0.blk with
   | none => rw [hbl] at hh; simp only at hh ⊢; rw [hh, List.map_nil]
   | some g =>
    rw [hbl] at hh
    obtain ⟨a1, a2, a3, cu, a4, a5, a6, a7, a8⟩ := hh
    have hok : ∀ e ∈ b.es, e.ok = true := fun e he => by
     by_cases hq : e.isAgg = true
     ·simp [AV.ok, hq]
     ·have : e.cells = [e] := by cases e <;> first | rfl | (simp [AV.isAgg] at hq)
      simp [AV.ok, (a8.1 e he).2 e (by rw [this]; simp)]
    exact ⟨a1, a2, a3, cu, a4, a5, a6, by simpa using a7, a8.pur hw hok⟩
  ·exact hw.box j bj hj
 ·intro j j' bj bj' Bj Bj' g hj hj' hne hf1 hf2 hBj hBj' hbl
  obtain ⟨bo, g1, g2, g3⟩ := hget' j bj hj
  obtain ⟨bo', g1', g2', g3'⟩ := hget' j' bj' hj'
  rw [← g2] at hBj; rw [← g2'] at hBj'
  exact hw.apart j j' bo bo' Bj Bj' g g1 g1' hne (g3.trans hf1) (g3'.trans hf2) hBj hBj' hbl
theorem Oi {P : Go.Program} {f : FuncId} {args : List AV} {r r' : AV} (h : AJ P f args r) (hr : ∀ S w v, VR S w mu0 v r → VR S w mu0 v r') : AJ P f args r' := ⟨h.1, h.2.1, fun S w vs h1 h2 => (h.2.2 S w vs h1 h2).mono fun e w' ⟨v, he, hv, hb⟩ => ⟨v, he, hr _ _ _ hv, hb⟩⟩
theorem Ai.Vv {s : St} {T : St → Prop} (k i : Nat) (y : AV) {b : Box} (hb : Aw s.hp k = some b)
  (hy : ∀ e, b.es[i]? = some e → (y.cells.length = e.cells.length ∧ ∀ x ∈ y.cells, x.one = true) ∧ ∀ (S : Nat → Prop) (w : World) (μ : Mu) (j : Nat) (x' : AV), y.cells[j]? = some x' → ∃ x, e.cells[j]? = some x ∧ ∀ v, VR S w μ v x → VR S w μ v x')
  (h : Ai ⟨s.fr, (k, ⟨b.ver, b.frz, b.ty, b.esz, b.es.set i y⟩) :: s.hp⟩ T) : Ai s T := by
 refine ⟨?_⟩
 rintro E nt a w ⟨hd, hn, S, μ, hw, hf⟩
 have hget' : ∀ j bj, Aw ((k, (⟨b.ver, b.frz, b.ty, b.esz, b.es.set i y⟩ : Box)) :: s.hp) j = some bj → ∃ bo, Aw s.hp j = some bo ∧ bo.ver = bj.ver ∧ bo.frz = bj.frz := fun j bj hj => by
  simp only [Aw] at hj
  split at hj
  ·rename_i e; subst e; cases hj; exact ⟨b, hb, rfl, rfl⟩
  ·exact ⟨bj, hj, rfl, rfl⟩
 refine h.run E nt a w ⟨hd, hn, S, μ, ⟨hw.ext, hw.lt, hw.base, hw.new, hw.fresh, fun j bj hj => ?_, ?_, hw.le⟩, hf⟩
 ·simp only [Aw] at hj
  split at hj
  ·rename_i e; subst e; cases hj
   obtain ⟨B0, h0, hz0, hh⟩ := hw.box k b hb
   refine ⟨B0, h0, hz0, ?_⟩
   cases hbl : B0.blk with
   | none => rw [hbl] at hh; simp only at hh ⊢; rw [hh, List.set_nil]
   | some g =>
    rw [hbl] at hh
    obtain ⟨a1, a2, a3, cu, a4, a5, a6, a7, a8⟩ := hh
    refine ⟨a1, a2, a3, cu, a4, a5, a6, by simpa using a7, fun e he => ?_, fun q j e x p hx => ?_⟩
    ·by_cases hi : i < b.es.length
     ·rcases List.mem_or_eq_of_mem_set he with he | rfl
      ·exact a8.1 e he
      ·have h1 := hy _ (List.getElem?_eq_getElem hi)
       exact ⟨h1.1.1.trans (a8.1 _ (List.getElem_mem hi)).1, h1.1.2⟩
     ·rw [List.set_eq_of_length_le (by omega)] at he
      exact a8.1 e he
    ·rw [List.getElem?_set] at p
     split at p
     ·rename_i hq
      subst hq
      split at p
      ·rename_i hlt
       cases p
       obtain ⟨x0, hx0, hv⟩ := (hy _ (List.getElem?_eq_getElem hlt)).2 S w μ j x hx
       obtain ⟨v, hv1, hv2⟩ := a8.2 i j _ x0 (List.getElem?_eq_getElem hlt) hx0
       exact ⟨v, hv1, hv v hv2⟩
      ·cases p
     ·exact a8.2 q j e x p hx
  ·exact hw.box j bj hj
 ·intro j j' bj bj' Bj Bj' g hj hj' hne hf1 hf2 hBj hBj' hbl
  obtain ⟨bo, g1, g2, g3⟩ := hget' j bj hj
  obtain ⟨bo', g1', g2', g3'⟩ := hget' j' bj' hj'
  rw [← g2] at hBj; rw [← g2'] at hBj'
  exact hw.apart j j' bo bo' Bj Bj' g g1 g1' hne (g3.trans hf1) (g3'.trans hf2) hBj hBj' hbl
theorem Ai.slB {s : St} {T : St → Prop} (k i off : Nat) {b : Box} (hb : Aw s.hp k = some b) {cs : List AV} (he : b.es[i]? = some (.agg cs)) (ho : ∀ x ∈ cs, x.one = true) (hc : cs[off]? = some .Au)
  (h : Ai ⟨s.fr, (k, ⟨b.ver, b.frz, b.ty, b.esz, b.es.set i (.agg (cs.set off (.sl [])))⟩) :: s.hp⟩ T) : Ai s T := by
 refine Ai.Vv k i (.agg (cs.set off (.sl []))) hb (fun e h1 => ?_) h
 rw [he] at h1
 cases h1
 refine ⟨⟨by simp [AV.cells], fun x hx => ?_⟩, fun S w μ j x' hx => ?_⟩
 ·rcases List.mem_or_eq_of_mem_set (show x ∈ cs.set off (.sl []) from hx) with h2 | rfl
  ·exact ho x h2
  ·rfl
 ·rw [show (AV.agg (cs.set off (.sl []))).cells = cs.set off (.sl []) from rfl, List.getElem?_set] at hx
  split at hx
  ·rename_i hq
   subst hq
   split at hx
   ·cases hx
    exact ⟨.Au, hc, fun v hv => by cases hv; exact .sl0 none 0 (Nat.zero_le _)⟩
   ·cases hx
  ·exact ⟨x', hx, fun v hv => hv⟩
end Go.Proofs.YteeiaaogmjbcjaaGreat
set_option linter.unusedVariables false
set_option maxRecDepth 100000
namespace Go.Proofs.YteeiaaogmjbcjaaGreat
open Go.Proofs.YteeiaaogmjbcjaaGreat.Av

theorem IM : Tryz.prog.follows .mixedOrders = true := by kernel_rfl

def FV : Ir Tryz.prog 84 [] [9999] 1 := ⟨_, _, Tryz.func84, IM, by kernel_rfl, Az [] Tryz.progTables (by conv => lhs; cbv) (by kernel_rfl)⟩
def Fe : Ir Tryz.prog 85 [(14, 7777), (16, 7777), (40, 7777)] [9999] 2 := ⟨_, _, Tryz.func85, IM, by kernel_rfl, Az [10010] Tryz.progTables (by conv => lhs; cbv) (by kernel_rfl)⟩
end Go.Proofs.YteeiaaogmjbcjaaGreat
set_option linter.unusedVariables false
set_option maxRecDepth 100000
namespace Go.Proofs.YteeiaaogmjbcjaaGreat
open Go.Proofs.YteeiaaogmjbcjaaGreat.Av

theorem Gm : Tryz.prog.follows .mixedOrders = true := by kernel_rfl

def Iv : Ir Tryz.prog 21 [(31,2000)] [9999] 1 := ⟨_, _, Tryz.func21, Gm, by kernel_rfl, Az [] Tryz.progTables (by conv => lhs; cbv) (by kernel_rfl)⟩
def Ff : Ir Tryz.prog 53 [(9,1),(10,1)] [9999] 1 := ⟨_, _, Tryz.func53, Gm, by kernel_rfl, Az [] Tryz.progTables (by conv => lhs; cbv) (by kernel_rfl)⟩
def DO : Ir Tryz.prog 25 [(14, 7777), (18, 7777), (20, 7777), (22, 7777), (24, 7777)] [9999] 2 := ⟨_, _, Tryz.func25, Gm, by kernel_rfl, Az [] Tryz.progTables (by conv => lhs; cbv) (by kernel_rfl)⟩
def Iu : Ir Tryz.prog 55 [(14, 7777), (19, 7777), (24, 7777), (29, 7777), (34, 7777), (37, 7777), (40, 7777), (43, 7777), (5, 7777), (9, 7777)] [9999] 1 := ⟨_, _, Tryz.func55, Gm, by kernel_rfl, Az [] Tryz.progTables (by conv => lhs; cbv) (by kernel_rfl)⟩
end Go.Proofs.YteeiaaogmjbcjaaGreat
