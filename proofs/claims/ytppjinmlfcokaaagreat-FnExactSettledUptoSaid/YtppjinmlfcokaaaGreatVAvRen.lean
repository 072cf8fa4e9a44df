/-
 OWN ROWS GET OTHER NAMES; versions of parts put together. Conditions: none.
-/
import Derived.Test.YtppjinmlfcokaaaGreatVJ18
set_option linter.unusedVariables false
set_option linter.unusedSimpArgs false
namespace Go.Proofs.YtppjinmlfcokaaaGreat.Av
open Go.RowKit
open AVal (av)
open OVal (ov oh on)

theorem Af.Afu {s : St} {T : St → Prop} (F : Nat → List (Nat × AV)) (j k : Nat) {v : Nat} {b : Box} (hb : Ao s.hp j = some b) (hv : b.ver = v)
  (hF : ∀ (v' : Nat) (S : Nat → Prop) (w : World) (μ : Mu) (a : Nat → Value), μ k v' = μ j v → (∀ t, VR S w μ (a t) (Bp s.fr t)) → ∀ t, VR S w μ (a t) (Bp (F v') t))
  (h : ∀ v', Af ⟨F v', (k, ⟨v', b.frz, b.ty, b.esz, b.es⟩) :: Ci [j] s.hp⟩ T) : Af s T := by
 refine ⟨?_⟩
 rintro E nt a w ⟨hd, hn, S, μ, hw, hf⟩
 obtain ⟨N, hN0, hN, _⟩ := hw.fresh
 obtain ⟨B, hB, hz, hh⟩ := hw.box j b hb
 have hle : Mu.le μ (μ.put k N B) := Mu.Nr (hN k N (Nat.le_refl _))
 have hget' : ∀ q, Ao ((k, (⟨N, b.frz, b.ty, b.esz, b.es⟩ : Box)) :: Ci [j] s.hp) q = if k = q then some ⟨N, b.frz, b.ty, b.esz, b.es⟩ else if q = j then none else Ao s.hp q := fun q => by
  simp only [Ao]
  split
  ·rfl
  ·rw [K6]
   by_cases hq : q = j
   ·rw [if_pos hq, if_pos (by simp [hq])]
   ·rw [if_neg hq, if_neg (by simp [hq])]
 have hold : ∀ q bq, Ao s.hp q = some bq → ∀ B', (μ.put k N B) q bq.ver = some B' → μ q bq.ver = some B' := fun q bq hq B' hB' => by
  obtain ⟨B0, h0, _⟩ := hw.box q bq hq
  have := hle _ _ _ h0
  rw [this] at hB'; cases hB'; exact h0
 refine (h N).run E nt a w ⟨hd, hn, S, μ.put k N B, ⟨hw.ext, hw.lt, hw.base, hw.new, Mu.Hv hN0 hw.fresh, fun q bq hq => ?_, ?_, hw.le.trans hle⟩, fun t => ?_⟩
 ·rw [hget'] at hq
  by_cases hkq : k = q
  ·rw [if_pos hkq] at hq; cases hq; subst hkq
   refine ⟨B, Mu.BM _ _ _ _, hz, ?_⟩
   cases hbl : B.blk with
   | none => rw [hbl] at hh; exact hh
   | some g =>
    rw [hbl] at hh
    obtain ⟨a1, a2, a3, cu, a4, a5, a6, a7, a8⟩ := hh
    exact ⟨a1, a2, a3, cu, a4, a5, a6, a7, a8.mono (fun _ h => h) (BU.refl _ _) hle⟩
  ·rw [if_neg hkq] at hq
   by_cases hqj : q = j
   ·rw [if_pos hqj] at hq; cases hq
   ·rw [if_neg hqj] at hq
    obtain ⟨B0, h0, hz0, hh0⟩ := hw.box q bq hq
    refine ⟨B0, hle _ _ _ h0, hz0, ?_⟩
    cases hbl : B0.blk with
    | none => rw [hbl] at hh0; exact hh0
    | some g =>
     rw [hbl] at hh0
     obtain ⟨a1, a2, a3, cu, a4, a5, a6, a7, a8⟩ := hh0
     exact ⟨a1, a2, a3, cu, a4, a5, a6, a7, a8.mono (fun _ h => h) (BU.refl _ _) hle⟩
 ·intro q q' bq bq' Bq Bq' g hq hq' hne hf1 hf2 hBq hBq' hbl
  rw [hget'] at hq hq'
  by_cases hkq : k = q
  ·rw [if_pos hkq] at hq; cases hq; subst hkq
   rw [Mu.BM] at hBq; cases hBq
   rw [if_neg hne] at hq'
   by_cases hqj : q' = j
   ·rw [if_pos hqj] at hq'; cases hq'
   ·rw [if_neg hqj] at hq'
    exact hw.apart j q' b bq' B Bq' g hb hq' (fun e => hqj e.symm) hf1 hf2 hB (hold q' bq' hq' _ hBq') hbl
  ·rw [if_neg hkq] at hq
   by_cases hqj : q = j
   ·rw [if_pos hqj] at hq; cases hq
   ·rw [if_neg hqj] at hq
    by_cases hkq' : k = q'
    ·rw [if_pos hkq'] at hq'; cases hq'; subst hkq'
     rw [Mu.BM] at hBq'; cases hBq'
     exact hw.apart q j bq b Bq B g hq hb hqj hf1 hf2 (hold q bq hq _ hBq) hB hbl
    ·rw [if_neg hkq'] at hq'
     by_cases hqj' : q' = j
     ·rw [if_pos hqj'] at hq'; cases hq'
     ·rw [if_neg hqj'] at hq'
      exact hw.apart q q' bq bq' Bq Bq' g hq hq' hne hf1 hf2 (hold q bq hq _ hBq) (hold q' bq' hq' _ hBq') hbl
 ·exact hF N S w (μ.put k N B) _ ((Mu.BM _ _ _ _).trans ((hv ▸ hle _ _ _ hB).symm)) (fun t => (hf t).mono (fun _ h => h) (BU.refl _ _) hle) t

theorem VR.ren {S : Nat → Prop} {w : World} {μ : Mu} {u : Value} {j v k v' n : Nat} (h : VR S w μ u (.row j v n)) (e : μ k v' = μ j v) : VR S w μ u (.row k v' n) := by
 cases h with
 | row _ _ _ bl cap esz h1 h2 h3 => exact .row k v' n _ _ _ (e.trans h1) h2 h3
 | Iw _ _ cap esz h1 => exact .Iw k v' _ _ (e.trans h1)
theorem VR.LY {S : Nat → Prop} {w : World} {μ : Mu} {u : Value} {cs : List AV} {off : Nat} {y : AV} (h : VR S w μ u (.agg cs)) (h1 : y.one = true) (hy : ∀ x v, cs[off]? = some x → VR S w μ v x → VR S w μ v y) : VR S w μ u (.agg (cs.set off y)) := by
 cases h with
 | agg vs _ hl ho hh =>
  refine .agg vs _ (by simpa using hl) (fun x hx => ?_) (fun q v x p e => ?_)
  ·rcases List.mem_or_eq_of_mem_set hx with h | h
   ·exact ho x h
   ·subst h; exact h1
  ·rw [List.getElem?_set] at e
   split at e
   ·rename_i hq
    subst hq
    split at e
    ·rename_i hlt
     cases e
     exact hy _ v (List.getElem?_eq_getElem hlt) (hh off v _ p (List.getElem?_eq_getElem hlt))
    ·cases e
   ·exact hh q v x p e
theorem LR {S : Nat → Prop} {w : World} {μ : Mu} {a : Nat → Value} {fr : List (Nat × AV)} {i : Nat} {y : AV} (h : ∀ t, VR S w μ (a t) (Bp fr t)) (hy : VR S w μ (a i) y) : ∀ t, VR S w μ (a t) (Bp ((i, y) :: fr) t) := fun t => by
 simp only [Bp]
 split
 ·rename_i e; subst e; exact hy
 ·exact h t
theorem Af.ren {s : St} {T : St → Prop} (i j k : Nat) {v n : Nat} {b : Box} (hi : Bp s.fr i = .row j v n) (hb : Ao s.hp j = some b) (hv : b.ver = v)
  (h : ∀ v', Af ⟨(i, .row k v' n) :: s.fr, (k, ⟨v', b.frz, b.ty, b.esz, b.es⟩) :: Ci [j] s.hp⟩ T) : Af s T :=
 Af.Afu (fun v' => (i, .row k v' n) :: s.fr) j k hb hv (fun v' S w μ a e hf => LR hf ((hi ▸ hf i).ren e)) h
theorem Af.Af6 {s : St} {T : St → Prop} (i off j k : Nat) {v n : Nat} {cs : List AV} {b : Box} (hi : Bp s.fr i = .agg cs) (hc : cs[off]? = some (.row j v n)) (hb : Ao s.hp j = some b) (hv : b.ver = v)
  (h : ∀ v', Af ⟨(i, .agg (cs.set off (.row k v' n))) :: s.fr, (k, ⟨v', b.frz, b.ty, b.esz, b.es⟩) :: Ci [j] s.hp⟩ T) : Af s T :=
 Af.Afu (fun v' => (i, .agg (cs.set off (.row k v' n))) :: s.fr) j k hb hv (fun v' S w μ a e hf => LR hf ((hi ▸ hf i).LY rfl fun x u hx hu => by
  rw [hc] at hx; cases hx; exact hu.ren e)) h
theorem Af.Age {s : St} {T : St → Prop} (F : Nat → List (Nat × AV)) (k : Nat) (ty : TypeId) (esz : Nat)
  (hF : ∀ (v : Nat) (S : Nat → Prop) (w : World) (μ : Mu) (a : Nat → Value), μ k v = some ⟨none, 0, esz⟩ → (∀ t, VR S w μ (a t) (Bp s.fr t)) → ∀ t, VR S w μ (a t) (Bp (F v) t))
  (h : ∀ v, Af ⟨F v, (k, ⟨v, false, ty, esz, []⟩) :: s.hp⟩ T) : Af s T := by
 refine ⟨?_⟩
 rintro E nt a w ⟨hd, hn, S, μ, hw, hf⟩
 obtain ⟨N, hN0, hN, _⟩ := hw.fresh
 have hle : Mu.le μ (μ.put k N ⟨none, 0, esz⟩) := Mu.Nr (hN k N (Nat.le_refl _))
 have hget' : ∀ j, Ao ((k, (⟨N, false, ty, esz, []⟩ : Box)) :: s.hp) j = if k = j then some ⟨N, false, ty, esz, []⟩ else Ao s.hp j := fun j => rfl
 have hold : ∀ j bj, Ao s.hp j = some bj → ∀ B', (μ.put k N ⟨none, 0, esz⟩) j bj.ver = some B' → μ j bj.ver = some B' := fun j bj hj B' hB' => by
  obtain ⟨B0, h0, _⟩ := hw.box j bj hj
  have := hle _ _ _ h0
  rw [this] at hB'; cases hB'; exact h0
 refine (h N).run E nt a w ⟨hd, hn, S, μ.put k N ⟨none, 0, esz⟩, ⟨hw.ext, hw.lt, hw.base, hw.new, Mu.Hv hN0 hw.fresh, fun j bj hj => ?_, ?_, hw.le.trans hle⟩, fun t => hF N S w _ _ (Mu.BM _ _ _ _) (fun t => (hf t).mono (fun _ h => h) (BU.refl _ _) hle) t⟩
 ·rw [hget'] at hj
  by_cases hkj : k = j
  ·rw [if_pos hkj] at hj; cases hj; subst hkj
   exact ⟨_, Mu.BM _ _ _ _, rfl, rfl⟩
  ·rw [if_neg hkj] at hj
   obtain ⟨B0, h0, hz0, hh⟩ := hw.box j bj hj
   refine ⟨B0, hle _ _ _ h0, hz0, ?_⟩
   cases hbl : B0.blk with
   | none => rw [hbl] at hh; exact hh
   | some b =>
    rw [hbl] at hh
    obtain ⟨a1, a2, a3, cu, a4, a5, a6, a7, a8⟩ := hh
    exact ⟨a1, a2, a3, cu, a4, a5, a6, a7, a8.mono (fun _ h => h) (BU.refl _ _) hle⟩
 ·intro j j' bj bj' Bj Bj' b hj hj' hne hf1 hf2 hBj hBj' hbl
  rw [hget'] at hj hj'
  by_cases hkj : k = j
  ·rw [if_pos hkj] at hj; cases hj; subst hkj
   rw [Mu.BM] at hBj; cases hBj; cases hbl
  ·rw [if_neg hkj] at hj
   by_cases hkj' : k = j'
   ·rw [if_pos hkj'] at hj'; cases hj'; subst hkj'
    rw [Mu.BM] at hBj'; cases hBj'; simp
   ·rw [if_neg hkj'] at hj'
    exact hw.apart j j' bj bj' Bj Bj' b hj hj' hne hf1 hf2 (hold j bj hj _ hBj) (hold j' bj' hj' _ hBj') hbl
theorem VR.new {S : Nat → Prop} {w : World} {μ : Mu} {u : Value} {k v esz : Nat} (h : VR S w μ u .An) (e : μ k v = some ⟨none, 0, esz⟩) : VR S w μ u (.row k v 0) := by
 cases h
 exact .Iw k v 0 esz e
theorem Af.new {s : St} {T : St → Prop} (i k : Nat) (ty : TypeId) (esz : Nat) (hi : Bp s.fr i = .An) (h : ∀ v, Af ⟨(i, .row k v 0) :: s.fr, (k, ⟨v, false, ty, esz, []⟩) :: s.hp⟩ T) : Af s T :=
 Af.Age (fun v => (i, .row k v 0) :: s.fr) k ty esz (fun v S w μ a e hf => LR hf ((hi ▸ hf i).new e)) h
theorem Af.AbC {s : St} {T : St → Prop} (i off k : Nat) (ty : TypeId) (esz : Nat) {cs : List AV} (hi : Bp s.fr i = .agg cs) (hc : cs[off]? = some .An) (h : ∀ v, Af ⟨(i, .agg (cs.set off (.row k v 0))) :: s.fr, (k, ⟨v, false, ty, esz, []⟩) :: s.hp⟩ T) : Af s T :=
 Af.Age (fun v => (i, .agg (cs.set off (.row k v 0))) :: s.fr) k ty esz (fun v S w μ a e hf => LR hf ((hi ▸ hf i).LY rfl fun x u hx hu => by
  rw [hc] at hx; cases hx; exact hu.new e)) h
theorem Dt {P : Go.Program} {f : FuncId} {args : List AV} {hp : Hp} {Post Post2 : AV → Hp → Prop} (h : Bu P f args hp Post) (hg : ∀ r hp', Post r hp' → Af ⟨[(0, r)], hp'⟩ fun s => Post2 (Bp s.fr 0) s.hp) : Bu P f args hp Post2 := by
 obtain ⟨hc, h⟩ := h
 refine ⟨hc, fun S w μ vs hW hv => (h S w μ vs hW hv).mono fun e w' ⟨v, r, hp', S', μ', he, hpst, hvr, hw'⟩ => ?_⟩
 obtain ⟨s2, hT, hd, hn, S2, μ2, hw2, hf2⟩ := (hg r hp' hpst).run ⟨w, S, G4 μ hp, μ⟩ 1 { tmps := #[v], defers := [] } w' ⟨rfl, rfl, S', μ', hw', fun t => by
  cases t with
  | zero => exact hvr
  | succ t => exact .top _⟩
 exact ⟨v, Bp s2.fr 0, s2.hp, S2, μ2, he, hT, hf2 0, hw2⟩

open Classical in
noncomputable def glue (K : Nat) (vs vs' : Nat → Nat) : Nat → Nat := fun k => if InT K k then vs k else vs' k
theorem Jq {K k : Nat} {vs vs' : Nat → Nat} (h : InT K k) : glue K vs vs' k = vs k := if_pos h
theorem EJ {K k : Nat} {vs vs' : Nat → Nat} (h : ¬ InT K k) : glue K vs vs' k = vs' k := if_neg h
section
variable {α : Type} [AVal α] [OVal α]
theorem OM (K : Nat) (vs vs' : Nat → Nat) (y : α) : ov K (glue K vs vs') y = ov K vs y := (OVal.FN K _ _ y fun k h => Jq h).1
theorem OP (K : Nat) (vs vs' : Nat → Nat) (y : α) : oh K (glue K vs vs') y = oh K vs y := (OVal.FN K _ _ y fun k h => Jq h).2
theorem Vo {K K' : Nat} (vs vs' : Nat → Nat) (y : α) (h : ∀ k, InT K' k → ¬ InT K k) : ov K' (glue K vs vs') y = ov K' vs' y := (OVal.FN K' _ _ y fun k hk => EJ (h k hk)).1
theorem Ki {K K' : Nat} (vs vs' : Nat → Nat) (y : α) (h : ∀ k, InT K' k → ¬ InT K k) : oh K' (glue K vs vs') y = oh K' vs' y := (OVal.FN K' _ _ y fun k hk => EJ (h k hk)).2
def DC (nm : Nat) (y : α) (r : AV) (hp' : Hp) : Prop := ∃ vs, r = ov nm vs y ∧ hp' = oh nm vs y
theorem Mj (nm : Nat) (vs : Nat → Nat) : ∀ (i : Nat) (a b : List α), ovL nm vs i (a ++ b) = ovL nm vs i a ++ ovL nm vs (i + a.length) b
 | _, [], _ => by simp [ovL]
 | i, e :: r, b => by simp only [List.cons_append, ovL, Mj nm vs (i + 1) r b, List.length_cons]; rw [show i + 1 + r.length = i + (r.length + 1) by omega]
theorem OQ (nm : Nat) (vs : Nat → Nat) : ∀ (i : Nat) (a b : List α), ohL nm vs i (a ++ b) = ohL nm vs i a ++ ohL nm vs (i + a.length) b
 | _, [], _ => by simp [ohL]
 | i, e :: r, b => by simp only [List.cons_append, ohL, OQ nm vs (i + 1) r b, List.length_cons, List.append_assoc]; rw [show i + 1 + r.length = i + (r.length + 1) by omega]
theorem IK {nm j : Nat} (vs vs' : Nat → Nat) : ∀ (i : Nat) (l : List α), i + l.length ≤ j → ovL nm (glue (sub nm j) vs vs') i l = ovL nm vs' i l ∧ ohL nm (glue (sub nm j) vs vs') i l = ohL nm vs' i l
 | _, [], _ => ⟨rfl, rfl⟩
 | i, e :: r, h => by
  simp only [List.length_cons] at h
  obtain ⟨a, b⟩ := IK (nm := nm) (j := j) vs vs' (i + 1) r (by omega)
  have hne : ∀ k, InT (sub nm i) k → ¬ InT (sub nm j) k := fun k h1 h2 => by have := h1.sib h2; omega
  simp only [ovL, ohL, a, b, Vo vs vs' e hne, Ki vs vs' e hne, and_self]
theorem Ac6 {nm : Nat} {vs vs' : Nat → Nat} {l : List α} {k : Nat} (h : k < l.length) : ohL nm (glue (sub nm k) vs vs') 0 (l.take (k + 1)) = ohL nm vs' 0 (l.take k) ++ oh (sub nm k) vs l[k] := by
 have ht : (l.take k).length = k := by simp; omega
 rw [List.take_succ_eq_append_getElem h, OQ, ht, Nat.zero_add, (IK vs vs' 0 _ (by omega)).2]
 simp only [ohL, OP, List.append_nil]
end
theorem K4 {α : Type} [AVal α] [OVal α] {nm : Nat} {vs : Nat → Nat} {v' : Nat} (l : List α) : ov nm (glue nm (fun k => if k = nm then v' else vs k) vs) l = .row nm v' l.length ∧
  oh nm (glue nm (fun k => if k = nm then v' else vs k) vs) l = ohL nm vs 0 l ++ [(nm, ⟨v', false, OVal.ty α, AVal.n α, ovL nm vs 0 l⟩)] := by
 have hroot : glue nm (fun k => if k = nm then v' else vs k) vs nm = v' := by rw [Jq .root]; simp
 have Ci : ∀ i (l : List α), ovL nm (glue nm (fun k => if k = nm then v' else vs k) vs) i l = ovL nm vs i l ∧ ohL nm (glue nm (fun k => if k = nm then v' else vs k) vs) i l = ohL nm vs i l := by
  intro i l
  induction l generalizing i with
  | nil => exact ⟨rfl, rfl⟩
  | cons e r ih =>
   obtain ⟨a, b⟩ := ih (i + 1)
   obtain ⟨c, d⟩ := OVal.FN (sub nm i) (glue nm (fun k => if k = nm then v' else vs k) vs) vs e (fun k hk => by
    rw [Jq hk.up]; simp [hk.ne])
   simp only [ovL, ohL, a, b, c, d, and_self]
 rw [DJ, Cn, Gg, hroot, (Ci 0 l).1, (Ci 0 l).2]
 exact ⟨rfl, rfl⟩
theorem OO {α : Type} [AVal α] [OVal α] {nm i : Nat} {vs : Nat → Nat} {y : α} {hp H : Hp} (hH : H = oh (sub nm i) vs y ++ hp) : ∀ q, q < 10000 → Ao H q = Ao hp q := fun q hq => by
 rw [hH, Cx (Lh fun h => by have := h.ge; omega)]
theorem TN {α : Type} [AVal α] [OVal α] {nm j v' : Nat} {vs : Nat → Nat} {l : List α} {b : Box} {hp : Hp} (hj : j < 10000) (hp0 : hp = (nm, ⟨v', false, OVal.ty α, AVal.n α, ovL nm vs 0 l⟩) :: Ci [j] ((j, b) :: ohL nm vs 0 l)) :
  AR hp (oh nm (glue nm (fun k => if k = nm then v' else vs k) vs) l) := by
 rw [(K4 l).2, AF]
 refine ⟨AL.2 fun p hp' => ?_, ⟨by rw [hp0]; exact BH, trivial⟩⟩
 obtain ⟨q, _, hq⟩ := DY hp'
 have hne : p.1 ≠ nm := hq.ne
 have hge := hq.ge
 rw [hp0, BL (fun e => hne e.symm), BT (by simp; omega), BL (by omega)]
 exact AL.1 (Dc nm vs 0 l) p hp'
end Go.Proofs.YtppjinmlfcokaaaGreat.Av
