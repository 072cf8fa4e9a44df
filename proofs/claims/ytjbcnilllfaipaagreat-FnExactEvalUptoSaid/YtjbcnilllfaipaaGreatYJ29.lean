/-
 OWN ROWS GET OTHER NAMES; versions of parts put together. Conditions: none.
-/
import Derived.Test.YtjbcnilllfaipaaGreatYAvOwn
import Derived.Test.YtjbcnilllfaipaaGreatProg
import Derived.Test.YtjbcnilllfaipaaGreatYAvDraw
set_option linter.unusedVariables false
set_option linter.unusedSimpArgs false
namespace Go.Proofs.YtjbcnilllfaipaaGreat.Av
open Go.RowKit
open AVal (av)
open OVal (ov oh on)

theorem Af.Ado {s : St} {T : St → Prop} (F : Nat → List (Nat × AV)) (j k : Nat) {v : Nat} {b : Box} (hb : Aw s.hp j = some b) (hv : b.ver = v)
  (hF : ∀ (v' : Nat) (S : Nat → Prop) (w : World) (μ : Mu) (a : Nat → Value), μ k v' = μ j v → (∀ t, VR S w μ (a t) (BJ s.fr t)) → ∀ t, VR S w μ (a t) (BJ (F v') t))
  (h : ∀ v', Af ⟨F v', (k, ⟨v', b.frz, b.ty, b.esz, b.es⟩) :: BN [j] s.hp⟩ T) : Af s T := by
 refine ⟨?_⟩
 rintro E nt a w ⟨hd, hn, S, μ, hw, hf⟩
 obtain ⟨N, hN0, hN, _⟩ := hw.fresh
 obtain ⟨B, hB, hz, hh⟩ := hw.box j b hb
 have hle : Mu.le μ (μ.put k N B) := Mu.ML (hN k N (Nat.le_refl _))
 have hget' : ∀ q, Aw ((k, (⟨N, b.frz, b.ty, b.esz, b.es⟩ : Box)) :: BN [j] s.hp) q = if k = q then some ⟨N, b.frz, b.ty, b.esz, b.es⟩ else if q = j then none else Aw s.hp q := fun q => by
  simp only [Aw]
  split
  ·rfl
  ·rw [MQ]
   by_cases hq : q = j
   ·rw [if_pos hq, if_pos (by simp [hq])]
   ·rw [if_neg hq, if_neg (by simp [hq])]
 have hold : ∀ q bq, Aw s.hp q = some bq → ∀ B', (μ.put k N B) q bq.ver = some B' → μ q bq.ver = some B' := fun q bq hq B' hB' => by
  obtain ⟨B0, h0, _⟩ := hw.box q bq hq
  have := hle _ _ _ h0
  rw [this] at hB'; cases hB'; exact h0
 refine (h N).run E nt a w ⟨hd, hn, S, μ.put k N B, ⟨hw.ext, hw.lt, hw.base, hw.new, Mu.GX hN0 hw.fresh, fun q bq hq => ?_, ?_, hw.le.trans hle⟩, fun t => ?_⟩
 ·rw [hget'] at hq
  by_cases hkq : k = q
  ·rw [if_pos hkq] at hq; cases hq; subst hkq
   refine ⟨B, Mu.BR _ _ _ _, hz, ?_⟩
   cases hbl : B.blk with
   | none => rw [hbl] at hh; exact hh
   | some g =>
    rw [hbl] at hh
    obtain ⟨a1, a2, a3, cu, a4, a5, a6, a7, a8⟩ := hh
    exact ⟨a1, a2, a3, cu, a4, a5, a6, a7, a8.mono (fun _ h => h) (Cc.refl _ _) hle⟩
  ·rw [if_neg hkq] at hq
   by_cases hqj : q = j
   ·rw [if_pos hqj] at hq; cases hq
   ·rw [if_neg hqj] at hq
    obtain ⟨B0, h0, hz0, hh0⟩ := hw.box q bq hq
    refine ⟨B0, hle _ _ _ h0, hz0, ?_⟩
    cases hbl : B0.blk with
    | none => rw [hbl] at hh0; exact hh0
    | some g =>
     rw [hbl] at hh0
     obtain ⟨a1, a2, a3, cu, a4, a5, a6, a7, a8⟩ := hh0
     exact ⟨a1, a2, a3, cu, a4, a5, a6, a7, a8.mono (fun _ h => h) (Cc.refl _ _) hle⟩
 ·intro q q' bq bq' Bq Bq' g hq hq' hne hf1 hf2 hBq hBq' hbl
  rw [hget'] at hq hq'
  by_cases hkq : k = q
  ·rw [if_pos hkq] at hq; cases hq; subst hkq
   rw [Mu.BR] at hBq; cases hBq
   rw [if_neg hne] at hq'
   by_cases hqj : q' = j
   ·rw [if_pos hqj] at hq'; cases hq'
   ·rw [if_neg hqj] at hq'
    exact hw.apart j q' b bq' B Bq' g hb hq' (fun e => hqj e.symm) hf1 hf2 hB (hold q' bq' hq' _ hBq') hbl
  ·rw [if_neg hkq] at hq
   by_cases hqj : q = j
   ·rw [if_pos hqj] at hq; cases hq
   ·rw [if_neg hqj] at hq
    by_cases hkq' : k = q'
    ·rw [if_pos hkq'] at hq'; cases hq'; subst hkq'
     rw [Mu.BR] at hBq'; cases hBq'
     exact hw.apart q j bq b Bq B g hq hb hqj hf1 hf2 (hold q bq hq _ hBq) hB hbl
    ·rw [if_neg hkq'] at hq'
     by_cases hqj' : q' = j
     ·rw [if_pos hqj'] at hq'; cases hq'
     ·rw [if_neg hqj'] at hq'
      exact hw.apart q q' bq bq' Bq Bq' g hq hq' hne hf1 hf2 (hold q bq hq _ hBq) (hold q' bq' hq' _ hBq') hbl
 ·exact hF N S w (μ.put k N B) _ ((Mu.BR _ _ _ _).trans ((hv ▸ hle _ _ _ hB).symm)) (fun t => (hf t).mono (fun _ h => h) (Cc.refl _ _) hle) t

theorem VR.ren {S : Nat → Prop} {w : World} {μ : Mu} {u : Value} {j v k v' n : Nat} (h : VR S w μ u (.row j v n)) (e : μ k v' = μ j v) : VR S w μ u (.row k v' n) := by
 cases h with
 | row _ _ _ bl cap esz h1 h2 h3 => exact .row k v' n _ _ _ (e.trans h1) h2 h3
 | JO _ _ cap esz h1 => exact .JO k v' _ _ (e.trans h1)
theorem VR.AbO {S : Nat → Prop} {w : World} {μ : Mu} {u : Value} {cs : List AV} {off : Nat} {y : AV} (h : VR S w μ u (.agg cs)) (h1 : y.one = true) (hy : ∀ x v, cs[off]? = some x → VR S w μ v x → VR S w μ v y) : VR S w μ u (.agg (cs.set off y)) := by
 cases h with
 | agg vs _ hl ho hh =>
  refine .agg vs _ (by simpa using hl) (fun x hx => ?_) (fun q v x p e => ?_)
  ·rcases List.mem_or_eq_of_mem_set hx with h | h
   ·exact ho x h
   ·subst h; exact h1
  ·rw [List.getElem?_set] at e
   split at e
   ·rename_i hq
    subst hq
    split at e
    ·rename_i hlt
     cases e
     exact hy _ v (List.getElem?_eq_getElem hlt) (hh off v _ p (List.getElem?_eq_getElem hlt))
    ·cases e
   ·exact hh q v x p e
theorem SA {S : Nat → Prop} {w : World} {μ : Mu} {a : Nat → Value} {fr : List (Nat × AV)} {i : Nat} {y : AV} (h : ∀ t, VR S w μ (a t) (BJ fr t)) (hy : VR S w μ (a i) y) : ∀ t, VR S w μ (a t) (BJ ((i, y) :: fr) t) := fun t => by
 simp only [BJ]
 split
 ·rename_i e; subst e; exact hy
 ·exact h t
theorem Af.ren {s : St} {T : St → Prop} (i j k : Nat) {v n : Nat} {b : Box} (hi : BJ s.fr i = .row j v n) (hb : Aw s.hp j = some b) (hv : b.ver = v)
  (h : ∀ v', Af ⟨(i, .row k v' n) :: s.fr, (k, ⟨v', b.frz, b.ty, b.esz, b.es⟩) :: BN [j] s.hp⟩ T) : Af s T :=
 Af.Ado (fun v' => (i, .row k v' n) :: s.fr) j k hb hv (fun v' S w μ a e hf => SA hf ((hi ▸ hf i).ren e)) h
theorem Af.AeC {s : St} {T : St → Prop} (i off j k : Nat) {v n : Nat} {cs : List AV} {b : Box} (hi : BJ s.fr i = .agg cs) (hc : cs[off]? = some (.row j v n)) (hb : Aw s.hp j = some b) (hv : b.ver = v)
  (h : ∀ v', Af ⟨(i, .agg (cs.set off (.row k v' n))) :: s.fr, (k, ⟨v', b.frz, b.ty, b.esz, b.es⟩) :: BN [j] s.hp⟩ T) : Af s T :=
 Af.Ado (fun v' => (i, .agg (cs.set off (.row k v' n))) :: s.fr) j k hb hv (fun v' S w μ a e hf => SA hf ((hi ▸ hf i).AbO rfl fun x u hx hu => by
  rw [hc] at hx; cases hx; exact hu.ren e)) h
theorem Af.AeF {s : St} {T : St → Prop} (F : Nat → List (Nat × AV)) (k : Nat) (ty : TypeId) (esz : Nat)
  (hF : ∀ (v : Nat) (S : Nat → Prop) (w : World) (μ : Mu) (a : Nat → Value), μ k v = some ⟨none, 0, esz⟩ → (∀ t, VR S w μ (a t) (BJ s.fr t)) → ∀ t, VR S w μ (a t) (BJ (F v) t))
  (h : ∀ v, Af ⟨F v, (k, ⟨v, false, ty, esz, []⟩) :: s.hp⟩ T) : Af s T := by
 refine ⟨?_⟩
 rintro E nt a w ⟨hd, hn, S, μ, hw, hf⟩
 obtain ⟨N, hN0, hN, _⟩ := hw.fresh
 have hle : Mu.le μ (μ.put k N ⟨none, 0, esz⟩) := Mu.ML (hN k N (Nat.le_refl _))
 have hget' : ∀ j, Aw ((k, (⟨N, false, ty, esz, []⟩ : Box)) :: s.hp) j = if k = j then some ⟨N, false, ty, esz, []⟩ else Aw s.hp j := fun j => rfl
 have hold : ∀ j bj, Aw s.hp j = some bj → ∀ B', (μ.put k N ⟨none, 0, esz⟩) j bj.ver = some B' → μ j bj.ver = some B' := fun j bj hj B' hB' => by
  obtain ⟨B0, h0, _⟩ := hw.box j bj hj
  have := hle _ _ _ h0
  rw [this] at hB'; cases hB'; exact h0
 refine (h N).run E nt a w ⟨hd, hn, S, μ.put k N ⟨none, 0, esz⟩, ⟨hw.ext, hw.lt, hw.base, hw.new, Mu.GX hN0 hw.fresh, fun j bj hj => ?_, ?_, hw.le.trans hle⟩, fun t => hF N S w _ _ (Mu.BR _ _ _ _) (fun t => (hf t).mono (fun _ h => h) (Cc.refl _ _) hle) t⟩
 ·rw [hget'] at hj
  by_cases hkj : k = j
  ·rw [if_pos hkj] at hj; cases hj; subst hkj
   exact ⟨_, Mu.BR _ _ _ _, rfl, rfl⟩
  ·rw [if_neg hkj] at hj
   obtain ⟨B0, h0, hz0, hh⟩ := hw.box j bj hj
   refine ⟨B0, hle _ _ _ h0, hz0, ?_⟩
   cases hbl : B0.blk with
   | none => rw [hbl] at hh; exact hh
   | some b =>
    rw [hbl] at hh
    obtain ⟨a1, a2, a3, cu, a4, a5, a6, a7, a8⟩ := hh
    exact ⟨a1, a2, a3, cu, a4, a5, a6, a7, a8.mono (fun _ h => h) (Cc.refl _ _) hle⟩
 ·intro j j' bj bj' Bj Bj' b hj hj' hne hf1 hf2 hBj hBj' hbl
  rw [hget'] at hj hj'
  by_cases hkj : k = j
  ·rw [if_pos hkj] at hj; cases hj; subst hkj
   rw [Mu.BR] at hBj; cases hBj; cases hbl
  ·rw [if_neg hkj] at hj
   by_cases hkj' : k = j'
   ·rw [if_pos hkj'] at hj'; cases hj'; subst hkj'
    rw [Mu.BR] at hBj'; cases hBj'; simp
   ·rw [if_neg hkj'] at hj'
    exact hw.apart j j' bj bj' Bj Bj' b hj hj' hne hf1 hf2 (hold j bj hj _ hBj) (hold j' bj' hj' _ hBj') hbl
theorem VR.new {S : Nat → Prop} {w : World} {μ : Mu} {u : Value} {k v esz : Nat} (h : VR S w μ u .Ar) (e : μ k v = some ⟨none, 0, esz⟩) : VR S w μ u (.row k v 0) := by
 cases h
 exact .JO k v 0 esz e
theorem Af.new {s : St} {T : St → Prop} (i k : Nat) (ty : TypeId) (esz : Nat) (hi : BJ s.fr i = .Ar) (h : ∀ v, Af ⟨(i, .row k v 0) :: s.fr, (k, ⟨v, false, ty, esz, []⟩) :: s.hp⟩ T) : Af s T :=
 Af.AeF (fun v => (i, .row k v 0) :: s.fr) k ty esz (fun v S w μ a e hf => SA hf ((hi ▸ hf i).new e)) h
theorem Va {P : Go.Program} {f : FuncId} {args : List AV} {hp : Hp} {Post Post2 : AV → Hp → Prop} (h : Ay P f args hp Post) (hg : ∀ r hp', Post r hp' → Af ⟨[(0, r)], hp'⟩ fun s => Post2 (BJ s.fr 0) s.hp) : Ay P f args hp Post2 := by
 obtain ⟨hc, h⟩ := h
 refine ⟨hc, fun S w μ vs hW hv => (h S w μ vs hW hv).mono fun e w' ⟨v, r, hp', S', μ', he, hpst, hvr, hw'⟩ => ?_⟩
 obtain ⟨s2, hT, hd, hn, S2, μ2, hw2, hf2⟩ := (hg r hp' hpst).run ⟨w, S, Hr μ hp, μ⟩ 1 { tmps := #[v], defers := [] } w' ⟨rfl, rfl, S', μ', hw', fun t => by
  cases t with
  | zero => exact hvr
  | succ t => exact .top _⟩
 exact ⟨v, BJ s2.fr 0, s2.hp, S2, μ2, he, hT, hf2 0, hw2⟩

open Classical in
noncomputable def glue (K : Nat) (vs vs' : Nat → Nat) : Nat → Nat := fun k => if InT K k then vs k else vs' k
theorem KA {K k : Nat} {vs vs' : Nat → Nat} (h : InT K k) : glue K vs vs' k = vs k := if_pos h
theorem Md {K k : Nat} {vs vs' : Nat → Nat} (h : ¬ InT K k) : glue K vs vs' k = vs' k := if_neg h
section
variable {α : Type} [AVal α] [OVal α]
theorem Acl (K : Nat) (vs vs' : Nat → Nat) (y : α) : ov K (glue K vs vs') y = ov K vs y := (OVal.Gm K _ _ y fun k h => KA h).1
theorem Sh (K : Nat) (vs vs' : Nat → Nat) (y : α) : oh K (glue K vs vs') y = oh K vs y := (OVal.Gm K _ _ y fun k h => KA h).2
theorem AaN {K K' : Nat} (vs vs' : Nat → Nat) (y : α) (h : ∀ k, InT K' k → ¬ InT K k) : ov K' (glue K vs vs') y = ov K' vs' y := (OVal.Gm K' _ _ y fun k hk => Md (h k hk)).1
theorem OE {K K' : Nat} (vs vs' : Nat → Nat) (y : α) (h : ∀ k, InT K' k → ¬ InT K k) : oh K' (glue K vs vs') y = oh K' vs' y := (OVal.Gm K' _ _ y fun k hk => Md (h k hk)).2
def Fu (nm : Nat) (y : α) (r : AV) (hp' : Hp) : Prop := ∃ vs, r = ov nm vs y ∧ hp' = oh nm vs y
theorem XN (nm : Nat) (vs : Nat → Nat) : ∀ (i : Nat) (a b : List α), ovL nm vs i (a ++ b) = ovL nm vs i a ++ ovL nm vs (i + a.length) b
 | _, [], _ => by simp [ovL]
 | i, e :: r, b => by simp only [List.cons_append, ovL, XN nm vs (i + 1) r b, List.length_cons]; rw [show i + 1 + r.length = i + (r.length + 1) by omega]
theorem X1 (nm : Nat) (vs : Nat → Nat) : ∀ (i : Nat) (a b : List α), ohL nm vs i (a ++ b) = ohL nm vs i a ++ ohL nm vs (i + a.length) b
 | _, [], _ => by simp [ohL]
 | i, e :: r, b => by simp only [List.cons_append, ohL, X1 nm vs (i + 1) r b, List.length_cons, List.append_assoc]; rw [show i + 1 + r.length = i + (r.length + 1) by omega]
theorem MJ {nm j : Nat} (vs vs' : Nat → Nat) : ∀ (i : Nat) (l : List α), i + l.length ≤ j → ovL nm (glue (sub nm j) vs vs') i l = ovL nm vs' i l ∧ ohL nm (glue (sub nm j) vs vs') i l = ohL nm vs' i l
 | _, [], _ => ⟨rfl, rfl⟩
 | i, e :: r, h => by
  simp only [List.length_cons] at h
  obtain ⟨a, b⟩ := MJ (nm := nm) (j := j) vs vs' (i + 1) r (by omega)
  have hne : ∀ k, InT (sub nm i) k → ¬ InT (sub nm j) k := fun k h1 h2 => by have := h1.sib h2; omega
  simp only [ovL, ohL, a, b, AaN vs vs' e hne, OE vs vs' e hne, and_self]
def Ct (nm : Nat) (vs : Nat → Nat) (l : List α) (z : AV) (k : Nat) : List AV := ovL nm vs 0 (l.take k) ++ List.replicate (l.length - k) z
theorem Hg (nm : Nat) (vs : Nat → Nat) (l : List α) (z : AV) : Ct nm vs l z 0 = List.replicate l.length z := by simp [Ct, ovL]
theorem IK {nm : Nat} {vs : Nat → Nat} {l : List α} (z : AV) {k : Nat} (h : k ≤ l.length) : (Ct nm vs l z k).length = l.length := by simp [Ct, EI]; omega
theorem IL {nm : Nat} {vs : Nat → Nat} {l : List α} (z : AV) {k : Nat} (h : k < l.length) (d : AV) : (Ct nm vs l z k).getD k d = z := by
 have hk : (ovL nm vs 0 (l.take k)).length = k := by simp [EI]; omega
 simp only [Ct, List.getD_eq_getElem?_getD]
 rw [List.getElem?_append_right (by omega), hk, Nat.sub_self, List.getElem?_replicate, if_pos (by omega)]
 rfl
theorem IJ {nm : Nat} {vs vs' : Nat → Nat} {l : List α} {z : AV} {k : Nat} (h : k < l.length) : (Ct nm vs' l z k).set k (ov (sub nm k) vs l[k]) = Ct nm (glue (sub nm k) vs vs') l z (k + 1) := by
 have hk : (ovL nm vs' 0 (l.take k)).length = k := by simp [EI]; omega
 have ht : (l.take k).length = k := by simp; omega
 simp only [Ct]
 rw [List.set_append_right _ _ (by omega), hk, Nat.sub_self, show l.length - k = (l.length - (k + 1)) + 1 by omega, List.replicate_succ, List.set_cons_zero, List.take_succ_eq_append_getElem h, XN, ht, Nat.zero_add, (MJ vs vs' 0 _ (by omega)).1]
 simp only [ovL, Acl, List.append_assoc, List.cons_append, List.nil_append]
theorem AaZ {nm : Nat} {vs vs' : Nat → Nat} {l : List α} {k : Nat} (h : k < l.length) : ohL nm (glue (sub nm k) vs vs') 0 (l.take (k + 1)) = ohL nm vs' 0 (l.take k) ++ oh (sub nm k) vs l[k] := by
 have ht : (l.take k).length = k := by simp; omega
 rw [List.take_succ_eq_append_getElem h, X1, ht, Nat.zero_add, (MJ vs vs' 0 _ (by omega)).2]
 simp only [ohL, Sh, List.append_nil]
end
theorem Kw {α : Type} [AVal α] [OVal α] {nm : Nat} {vs : Nat → Nat} {v' : Nat} (l : List α) : ov nm (glue nm (fun k => if k = nm then v' else vs k) vs) l = .row nm v' l.length ∧
  oh nm (glue nm (fun k => if k = nm then v' else vs k) vs) l = ohL nm vs 0 l ++ [(nm, ⟨v', false, OVal.ty α, AVal.n α, ovL nm vs 0 l⟩)] := by
 have hroot : glue nm (fun k => if k = nm then v' else vs k) vs nm = v' := by rw [KA .root]; simp
 have BN : ∀ i (l : List α), ovL nm (glue nm (fun k => if k = nm then v' else vs k) vs) i l = ovL nm vs i l ∧ ohL nm (glue nm (fun k => if k = nm then v' else vs k) vs) i l = ohL nm vs i l := by
  intro i l
  induction l generalizing i with
  | nil => exact ⟨rfl, rfl⟩
  | cons e r ih =>
   obtain ⟨a, b⟩ := ih (i + 1)
   obtain ⟨c, d⟩ := OVal.Gm (sub nm i) (glue nm (fun k => if k = nm then v' else vs k) vs) vs e (fun k hk => by
    rw [KA hk.up]; simp [hk.ne])
   simp only [ovL, ohL, a, b, c, d, and_self]
 rw [AO, IY, FZ, hroot, (BN 0 l).1, (BN 0 l).2]
 exact ⟨rfl, rfl⟩
theorem Mp {α : Type} [AVal α] [OVal α] {nm j k : Nat} {vs v1 : Nat → Nat} {l : List α} (h : k < l.length) (hj : j < 10000) {b b' : Box} {H : Hp} (hH : H = oh (sub nm k) v1 l[k] ++ BN [] ((j, b) :: ohL nm vs 0 (l.take k))) :
  Bg ((j, b') :: H) ((j, b') :: ohL nm (glue (sub nm k) v1 vs) 0 (l.take (k + 1))) := by
 rw [CK] at hH
 rw [Dt]
 refine ⟨Cj, ?_⟩
 rw [AaZ h, BI]
 constructor
 ·refine A3.2 fun p hp => ?_
  obtain ⟨q, hq, hm⟩ := LN hp
  rw [Nat.zero_add] at hm
  have hin := OVal.inh hm
  have hqk : q < k := by simp at hq; omega
  have hne : j ≠ p.1 := fun e => by have := hin.ge; omega
  rw [D5 hne, hH, Dh (Ii fun h' => by have := h'.sib hin; omega), D5 hne]
  exact A3.1 (LL nm vs 0 _) p hp
 ·refine A3.2 fun p hp => ?_
  have hin := OVal.inh hp
  have hne : j ≠ p.1 := fun e => by have := hin.ge; omega
  rw [D5 hne, hH]
  exact UD (A3.1 (OVal.self _ _ _) p hp)
theorem GK {α : Type} [AVal α] [OVal α] {nm i : Nat} {vs : Nat → Nat} {y : α} {hp H : Hp} (hH : H = oh (sub nm i) vs y ++ hp) : ∀ q, q < 10000 → Aw H q = Aw hp q := fun q hq => by
 rw [hH, Dh (Ii fun h => by have := h.ge; omega)]
theorem Mf {α : Type} [AVal α] [OVal α] {nm j v' : Nat} {vs : Nat → Nat} {l : List α} {b : Box} {hp : Hp} (hj : j < 10000) (hp0 : hp = (nm, ⟨v', false, OVal.ty α, AVal.n α, ovL nm vs 0 l⟩) :: BN [j] ((j, b) :: ohL nm vs 0 l)) :
  Bg hp (oh nm (glue nm (fun k => if k = nm then v' else vs k) vs) l) := by
 rw [(Kw l).2, BI]
 refine ⟨A3.2 fun p hp' => ?_, ⟨by rw [hp0]; exact Cj, trivial⟩⟩
 obtain ⟨q, _, hq⟩ := Sj hp'
 have hne : p.1 ≠ nm := hq.ne
 have hge := hq.ge
 rw [hp0, D5 (fun e => hne e.symm), KS (by simp; omega), D5 (by omega)]
 exact A3.1 (LL nm vs 0 l) p hp'
end Go.Proofs.YtjbcnilllfaipaaGreat.Av
set_option linter.unusedVariables false
set_option linter.unusedSimpArgs false
set_option maxRecDepth 100000
namespace Go.Proofs.YtjbcnilllfaipaaGreat.Av
open Go.RowKit

theorem VR.Sk {S : Nat → Prop} {w : World} {μ : Mu} {u : Value} {cs : List AV} {off : Nat} {y : AV} (h : VR S w μ u (.obj cs)) (h1 : y.one = true) (hy : ∀ x v, cs[off]? = some x → VR S w μ v x → VR S w μ v y) : VR S w μ u (.obj (cs.set off y)) := by
 cases h with
 | obj b o vs _ hS h2 hc h =>
  refine .obj b o vs _ hS (fun x hx => ?_) (fun i hi => hc i (by simpa using hi)) (fun i x hx => ?_)
  ·rcases List.mem_or_eq_of_mem_set hx with hx | rfl
   ·exact h2 x hx
   ·exact h1
  ·rw [List.getElem?_set] at hx
   split at hx
   ·rename_i e
    subst e
    split at hx
    ·rename_i hl
     cases hx
     obtain ⟨z, hz⟩ : ∃ z, cs[off]? = some z := ⟨cs[off], List.getElem?_eq_getElem hl⟩
     exact hy z _ hz (h off z hz)
    ·cases hx
   ·exact h i x hx
def Nm (b1 b3 a1 a2 a3 a4 a5 y : AV) : Nat → AV
 | 0 => .obj [b1, y, b3]
 | d + 1 => .obj [b1, .obj [a1, a2, a3, a4, a5, Nm b1 b3 a1 a2 a3 a4 a5 y d], b3]
theorem LR (b1 b3 a1 a2 a3 a4 a5 y : AV) (d : Nat) : (Nm b1 b3 a1 a2 a3 a4 a5 y d).one = true := by cases d <;> rfl
end Go.Proofs.YtjbcnilllfaipaaGreat.Av
set_option linter.unusedVariables false
set_option maxRecDepth 100000
namespace Go.Proofs.YtjbcnilllfaipaaGreat
open Go.Proofs.YtjbcnilllfaipaaGreat.Av

theorem FU : Tryz.prog.follows .mixedOrders = true := by kernel_rfl

def Db : Ir Tryz.prog 134 [(5,8)] [9999] 1 := ⟨_, _, Tryz.func134, FU, by kernel_rfl, Ag [] Tryz.progTables (by conv => lhs; cbv) (by kernel_rfl)⟩
def FB : Ir Tryz.prog 135 [(4,7776)] [] 1 := ⟨_, _, Tryz.func135, FU, by kernel_rfl, Ag [] Tryz.progTables (by conv => lhs; cbv) (by kernel_rfl)⟩
def JD : Ir Tryz.prog 106 [(8, 7777)] [] 1 := ⟨_, _, Tryz.func106, FU, by kernel_rfl, Ag [] Tryz.progTables (by conv => lhs; cbv) (by kernel_rfl)⟩
def IH : Ir Tryz.prog 58 [] [] 1 := ⟨_, _, Tryz.func58, FU, by kernel_rfl, Ag [] Tryz.progTables (by conv => lhs; cbv) (by kernel_rfl)⟩
def L3 : Ir Tryz.prog 25 [(25,25)] [] 2 := ⟨_, _, Tryz.func25, FU, by kernel_rfl, Ag [] Tryz.progTables (by conv => lhs; cbv) (by kernel_rfl)⟩
end Go.Proofs.YtjbcnilllfaipaaGreat
set_option linter.unusedVariables false
set_option maxRecDepth 100000
