/-
 OWN ROWS GET OTHER NAMES; versions of parts put together. Conditions: none.
-/
import Derived.Test.YteeiaaogmjbcjaaGreatUAvOwn
import Derived.Test.YteeiaaogmjbcjaaGreatProg
import Derived.Test.YteeiaaogmjbcjaaGreatUAvDraw
import Derived.Test.YteeiaaogmjbcjaaGreatUJ06
import Derived.Test.YteeiaaogmjbcjaaGreatUJ09
import Derived.Test.YteeiaaogmjbcjaaGreatUJ11
set_option linter.unusedVariables false
set_option linter.unusedSimpArgs false
namespace Go.Proofs.YteeiaaogmjbcjaaGreat.Av
open Go.RowKit
open AVal (av)
open OVal (ov oh on)

theorem Ai.Aci {s : St} {T : St → Prop} (F : Nat → List (Nat × AV)) (j k : Nat) {v : Nat} {b : Box} (hb : Aw s.hp j = some b) (hv : b.ver = v)
  (hF : ∀ (v' : Nat) (S : Nat → Prop) (w : World) (μ : Mu) (a : Nat → Value), μ k v' = μ j v → (∀ t, VR S w μ (a t) (Ba s.fr t)) → ∀ t, VR S w μ (a t) (Ba (F v') t))
  (h : ∀ v', Ai ⟨F v', (k, ⟨v', b.frz, b.ty, b.esz, b.es⟩) :: BS [j] s.hp⟩ T) : Ai s T := by
 refine ⟨?_⟩
 rintro E nt a w ⟨hd, hn, S, μ, hw, hf⟩
 obtain ⟨N, hN0, hN, _⟩ := hw.fresh
 obtain ⟨B, hB, hz, hh⟩ := hw.box j b hb
 have hle : Mu.le μ (μ.put k N B) := Mu.KW (hN k N (Nat.le_refl _))
 have hget' : ∀ q, Aw ((k, (⟨N, b.frz, b.ty, b.esz, b.es⟩ : Box)) :: BS [j] s.hp) q = if k = q then some ⟨N, b.frz, b.ty, b.esz, b.es⟩ else if q = j then none else Aw s.hp q := fun q => by
  simp only [Aw]
  split
  ·rfl
  ·rw [K0]
   by_cases hq : q = j
   ·rw [if_pos hq, if_pos (by simp [hq])]
   ·rw [if_neg hq, if_neg (by simp [hq])]
 have hold : ∀ q bq, Aw s.hp q = some bq → ∀ B', (μ.put k N B) q bq.ver = some B' → μ q bq.ver = some B' := fun q bq hq B' hB' => by
  obtain ⟨B0, h0, _⟩ := hw.box q bq hq
  have := hle _ _ _ h0
  rw [this] at hB'; cases hB'; exact h0
 refine (h N).run E nt a w ⟨hd, hn, S, μ.put k N B, ⟨hw.ext, hw.lt, hw.base, hw.new, Mu.Fx hN0 hw.fresh, fun q bq hq => ?_, ?_, hw.le.trans hle⟩, fun t => ?_⟩
 ·rw [hget'] at hq
  by_cases hkq : k = q
  ·rw [if_pos hkq] at hq; cases hq; subst hkq
   refine ⟨B, Mu.Bo _ _ _ _, hz, ?_⟩
   cases hbl : B.blk with
   | none => rw [hbl] at hh; exact hh
   | some g =>
    rw [hbl] at hh
    obtain ⟨a1, a2, a3, cu, a4, a5, a6, a7, a8⟩ := hh
    exact ⟨a1, a2, a3, cu, a4, a5, a6, a7, a8.mono (fun _ h => h) (BD.refl _ _) hle⟩
  ·rw [if_neg hkq] at hq
   by_cases hqj : q = j
   ·rw [if_pos hqj] at hq; cases hq
   ·rw [if_neg hqj] at hq
    obtain ⟨B0, h0, hz0, hh0⟩ := hw.box q bq hq
    refine ⟨B0, hle _ _ _ h0, hz0, ?_⟩
    cases hbl : B0.blk with
    | none => rw [hbl] at hh0; exact hh0
    | some g =>
     rw [hbl] at hh0
     obtain ⟨a1, a2, a3, cu, a4, a5, a6, a7, a8⟩ := hh0
     exact ⟨a1, a2, a3, cu, a4, a5, a6, a7, a8.mono (fun _ h => h) (BD.refl _ _) hle⟩
 ·intro q q' bq bq' Bq Bq' g hq hq' hne hf1 hf2 hBq hBq' hbl
  rw [hget'] at hq hq'
  by_cases hkq : k = q
  ·rw [if_pos hkq] at hq; cases hq; subst hkq
   rw [Mu.Bo] at hBq; cases hBq
   rw [if_neg hne] at hq'
   by_cases hqj : q' = j
   ·rw [if_pos hqj] at hq'; cases hq'
   ·rw [if_neg hqj] at hq'
    exact hw.apart j q' b bq' B Bq' g hb hq' (fun e => hqj e.symm) hf1 hf2 hB (hold q' bq' hq' _ hBq') hbl
  ·rw [if_neg hkq] at hq
   by_cases hqj : q = j
   ·rw [if_pos hqj] at hq; cases hq
   ·rw [if_neg hqj] at hq
    by_cases hkq' : k = q'
    ·rw [if_pos hkq'] at hq'; cases hq'; subst hkq'
     rw [Mu.Bo] at hBq'; cases hBq'
     exact hw.apart q j bq b Bq B g hq hb hqj hf1 hf2 (hold q bq hq _ hBq) hB hbl
    ·rw [if_neg hkq'] at hq'
     by_cases hqj' : q' = j
     ·rw [if_pos hqj'] at hq'; cases hq'
     ·rw [if_neg hqj'] at hq'
      exact hw.apart q q' bq bq' Bq Bq' g hq hq' hne hf1 hf2 (hold q bq hq _ hBq) (hold q' bq' hq' _ hBq') hbl
 ·exact hF N S w (μ.put k N B) _ ((Mu.Bo _ _ _ _).trans ((hv ▸ hle _ _ _ hB).symm)) (fun t => (hf t).mono (fun _ h => h) (BD.refl _ _) hle) t

theorem VR.ren {S : Nat → Prop} {w : World} {μ : Mu} {u : Value} {j v k v' n : Nat} (h : VR S w μ u (.row j v n)) (e : μ k v' = μ j v) : VR S w μ u (.row k v' n) := by
 cases h with
 | row _ _ _ bl cap esz h1 h2 h3 => exact .row k v' n _ _ _ (e.trans h1) h2 h3
 | Gr _ _ cap esz h1 => exact .Gr k v' _ _ (e.trans h1)
theorem VR.Vh {S : Nat → Prop} {w : World} {μ : Mu} {u : Value} {cs : List AV} {off : Nat} {y : AV} (h : VR S w μ u (.agg cs)) (h1 : y.one = true) (hy : ∀ x v, cs[off]? = some x → VR S w μ v x → VR S w μ v y) : VR S w μ u (.agg (cs.set off y)) := by
 cases h with
 | agg vs _ hl ho hh =>
  refine .agg vs _ (by simpa using hl) (fun x hx => ?_) (fun q v x p e => ?_)
  ·rcases List.mem_or_eq_of_mem_set hx with h | h
   ·exact ho x h
   ·subst h; exact h1
  ·rw [List.getElem?_set] at e
   split at e
   ·rename_i hq
    subst hq
    split at e
    ·rename_i hlt
     cases e
     exact hy _ v (List.getElem?_eq_getElem hlt) (hh off v _ p (List.getElem?_eq_getElem hlt))
    ·cases e
   ·exact hh q v x p e
theorem QD {S : Nat → Prop} {w : World} {μ : Mu} {a : Nat → Value} {fr : List (Nat × AV)} {i : Nat} {y : AV} (h : ∀ t, VR S w μ (a t) (Ba fr t)) (hy : VR S w μ (a i) y) : ∀ t, VR S w μ (a t) (Ba ((i, y) :: fr) t) := fun t => by
 simp only [Ba]
 split
 ·rename_i e; subst e; exact hy
 ·exact h t
theorem Ai.ren {s : St} {T : St → Prop} (i j k : Nat) {v n : Nat} {b : Box} (hi : Ba s.fr i = .row j v n) (hb : Aw s.hp j = some b) (hv : b.ver = v)
  (h : ∀ v', Ai ⟨(i, .row k v' n) :: s.fr, (k, ⟨v', b.frz, b.ty, b.esz, b.es⟩) :: BS [j] s.hp⟩ T) : Ai s T :=
 Ai.Aci (fun v' => (i, .row k v' n) :: s.fr) j k hb hv (fun v' S w μ a e hf => QD hf ((hi ▸ hf i).ren e)) h
theorem Ai.Acu {s : St} {T : St → Prop} (F : Nat → List (Nat × AV)) (k : Nat) (ty : TypeId) (esz : Nat)
  (hF : ∀ (v : Nat) (S : Nat → Prop) (w : World) (μ : Mu) (a : Nat → Value), μ k v = some ⟨none, 0, esz⟩ → (∀ t, VR S w μ (a t) (Ba s.fr t)) → ∀ t, VR S w μ (a t) (Ba (F v) t))
  (h : ∀ v, Ai ⟨F v, (k, ⟨v, false, ty, esz, []⟩) :: s.hp⟩ T) : Ai s T := by
 refine ⟨?_⟩
 rintro E nt a w ⟨hd, hn, S, μ, hw, hf⟩
 obtain ⟨N, hN0, hN, _⟩ := hw.fresh
 have hle : Mu.le μ (μ.put k N ⟨none, 0, esz⟩) := Mu.KW (hN k N (Nat.le_refl _))
 have hget' : ∀ j, Aw ((k, (⟨N, false, ty, esz, []⟩ : Box)) :: s.hp) j = if k = j then some ⟨N, false, ty, esz, []⟩ else Aw s.hp j := fun j => rfl
 have hold : ∀ j bj, Aw s.hp j = some bj → ∀ B', (μ.put k N ⟨none, 0, esz⟩) j bj.ver = some B' → μ j bj.ver = some B' := fun j bj hj B' hB' => by
  obtain ⟨B0, h0, _⟩ := hw.box j bj hj
  have := hle _ _ _ h0
  rw [this] at hB'; cases hB'; exact h0
 refine (h N).run E nt a w ⟨hd, hn, S, μ.put k N ⟨none, 0, esz⟩, ⟨hw.ext, hw.lt, hw.base, hw.new, Mu.Fx hN0 hw.fresh, fun j bj hj => ?_, ?_, hw.le.trans hle⟩, fun t => hF N S w _ _ (Mu.Bo _ _ _ _) (fun t => (hf t).mono (fun _ h => h) (BD.refl _ _) hle) t⟩
 ·rw [hget'] at hj
  by_cases hkj : k = j
  ·rw [if_pos hkj] at hj; cases hj; subst hkj
   exact ⟨_, Mu.Bo _ _ _ _, rfl, rfl⟩
  ·rw [if_neg hkj] at hj
   obtain ⟨B0, h0, hz0, hh⟩ := hw.box j bj hj
   refine ⟨B0, hle _ _ _ h0, hz0, ?_⟩
   cases hbl : B0.blk with
   | none => rw [hbl] at hh; exact hh
   | some b =>
    rw [hbl] at hh
    obtain ⟨a1, a2, a3, cu, a4, a5, a6, a7, a8⟩ := hh
    exact ⟨a1, a2, a3, cu, a4, a5, a6, a7, a8.mono (fun _ h => h) (BD.refl _ _) hle⟩
 ·intro j j' bj bj' Bj Bj' b hj hj' hne hf1 hf2 hBj hBj' hbl
  rw [hget'] at hj hj'
  by_cases hkj : k = j
  ·rw [if_pos hkj] at hj; cases hj; subst hkj
   rw [Mu.Bo] at hBj; cases hBj; cases hbl
  ·rw [if_neg hkj] at hj
   by_cases hkj' : k = j'
   ·rw [if_pos hkj'] at hj'; cases hj'; subst hkj'
    rw [Mu.Bo] at hBj'; cases hBj'; simp
   ·rw [if_neg hkj'] at hj'
    exact hw.apart j j' bj bj' Bj Bj' b hj hj' hne hf1 hf2 (hold j bj hj _ hBj) (hold j' bj' hj' _ hBj') hbl
theorem VR.new {S : Nat → Prop} {w : World} {μ : Mu} {u : Value} {k v esz : Nat} (h : VR S w μ u .Au) (e : μ k v = some ⟨none, 0, esz⟩) : VR S w μ u (.row k v 0) := by
 cases h
 exact .Gr k v 0 esz e
theorem Ai.new {s : St} {T : St → Prop} (i k : Nat) (ty : TypeId) (esz : Nat) (hi : Ba s.fr i = .Au) (h : ∀ v, Ai ⟨(i, .row k v 0) :: s.fr, (k, ⟨v, false, ty, esz, []⟩) :: s.hp⟩ T) : Ai s T :=
 Ai.Acu (fun v => (i, .row k v 0) :: s.fr) k ty esz (fun v S w μ a e hf => QD hf ((hi ▸ hf i).new e)) h
theorem Ai.trim {s : St} {T : St → Prop} (k n : Nat) {b : Box} (hb : Aw s.hp k = some b) (h : Ai ⟨s.fr, (k, ⟨b.ver, b.frz, b.ty, b.esz, b.es.take n⟩) :: s.hp⟩ T) : Ai s T := by
 refine ⟨?_⟩
 rintro E nt a w ⟨hd, hn, S, μ, hw, hf⟩
 have hget' : ∀ j bj, Aw ((k, (⟨b.ver, b.frz, b.ty, b.esz, b.es.take n⟩ : Box)) :: s.hp) j = some bj → ∃ bo, Aw s.hp j = some bo ∧ bo.ver = bj.ver ∧ bo.frz = bj.frz := fun j bj hj => by
  simp only [Aw] at hj
  split at hj
  ·rename_i e; subst e; cases hj; exact ⟨b, hb, rfl, rfl⟩
  ·exact ⟨bj, hj, rfl, rfl⟩
 refine h.run E nt a w ⟨hd, hn, S, μ, ⟨hw.ext, hw.lt, hw.base, hw.new, hw.fresh, fun j bj hj => ?_, ?_, hw.le⟩, hf⟩
 ·simp only [Aw] at hj
  split at hj
  ·rename_i e; subst e; cases hj
   obtain ⟨B0, h0, hz0, hh⟩ := hw.box k b hb
   refine ⟨B0, h0, hz0, ?_⟩
   cases hbl : B0.blk with
   | none => rw [hbl] at hh; simp only at hh ⊢; rw [hh, List.take_nil]
   | some g =>
    rw [hbl] at hh
    obtain ⟨a1, a2, a3, cu, a4, a5, a6, a7, a8⟩ := hh
    refine ⟨a1, a2, a3, cu, a4, a5, a6, by simp; omega, fun e he => a8.1 e (List.mem_of_mem_take he), fun i j e x p q => ?_⟩
    rw [List.getElem?_take] at p
    split at p
    ·exact a8.2 i j e x p q
    ·cases p
  ·exact hw.box j bj hj
 ·intro j j' bj bj' Bj Bj' g hj hj' hne hf1 hf2 hBj hBj' hbl
  obtain ⟨bo, g1, g2, g3⟩ := hget' j bj hj
  obtain ⟨bo', g1', g2', g3'⟩ := hget' j' bj' hj'
  rw [← g2] at hBj; rw [← g2'] at hBj'
  exact hw.apart j j' bo bo' Bj Bj' g g1 g1' hne (g3.trans hf1) (g3'.trans hf2) hBj hBj' hbl

theorem Gp {P : Go.Program} {f : FuncId} {args : List AV} {hp : Hp} {Post Post2 : AV → Hp → Prop} (h : AH P f args hp Post) (hg : ∀ r hp', Post r hp' → Ai ⟨[(0, r)], hp'⟩ fun s => Post2 (Ba s.fr 0) s.hp) : AH P f args hp Post2 := by
 obtain ⟨hc, h⟩ := h
 refine ⟨hc, fun S w μ vs hW hv => (h S w μ vs hW hv).mono fun e w' ⟨v, r, hp', S', μ', he, hpst, hvr, hw'⟩ => ?_⟩
 obtain ⟨s2, hT, hd, hn, S2, μ2, hw2, hf2⟩ := (hg r hp' hpst).run ⟨w, S, E1 μ hp, μ⟩ 1 { tmps := #[v], defers := [] } w' ⟨rfl, rfl, S', μ', hw', fun t => by
  cases t with
  | zero => exact hvr
  | succ t => exact .top _⟩
 exact ⟨v, Ba s2.fr 0, s2.hp, S2, μ2, he, hT, hf2 0, hw2⟩

open Classical in
noncomputable def glue (K : Nat) (vs vs' : Nat → Nat) : Nat → Nat := fun k => if InT K k then vs k else vs' k
theorem WS {K k : Nat} {vs vs' : Nat → Nat} (h : InT K k) : glue K vs vs' k = vs k := if_pos h
section
variable {α : Type} [AVal α] [OVal α]
def Aat (nm : Nat) (y : α) (r : AV) (hp' : Hp) : Prop := ∃ vs, r = ov nm vs y ∧ hp' = oh nm vs y
theorem V8 (nm : Nat) (vs : Nat → Nat) : ∀ (i : Nat) (a b : List α), ovL nm vs i (a ++ b) = ovL nm vs i a ++ ovL nm vs (i + a.length) b
 | _, [], _ => by simp [ovL]
 | i, e :: r, b => by simp only [List.cons_append, ovL, V8 nm vs (i + 1) r b, List.length_cons]; rw [show i + 1 + r.length = i + (r.length + 1) by omega]
theorem Wm (nm : Nat) (vs : Nat → Nat) : ∀ (i : Nat) (a b : List α), ohL nm vs i (a ++ b) = ohL nm vs i a ++ ohL nm vs (i + a.length) b
 | _, [], _ => by simp [ohL]
 | i, e :: r, b => by simp only [List.cons_append, ohL, Wm nm vs (i + 1) r b, List.length_cons, List.append_assoc]; rw [show i + 1 + r.length = i + (r.length + 1) by omega]
end
theorem Mb {α : Type} [AVal α] [OVal α] {nm : Nat} {vs : Nat → Nat} {v' : Nat} (l : List α) : ov nm (glue nm (fun k => if k = nm then v' else vs k) vs) l = .row nm v' l.length ∧
  oh nm (glue nm (fun k => if k = nm then v' else vs k) vs) l = ohL nm vs 0 l ++ [(nm, ⟨v', false, OVal.ty α, AVal.n α, ovL nm vs 0 l⟩)] := by
 have hroot : glue nm (fun k => if k = nm then v' else vs k) vs nm = v' := by rw [WS .root]; simp
 have BS : ∀ i (l : List α), ovL nm (glue nm (fun k => if k = nm then v' else vs k) vs) i l = ovL nm vs i l ∧ ohL nm (glue nm (fun k => if k = nm then v' else vs k) vs) i l = ohL nm vs i l := by
  intro i l
  induction l generalizing i with
  | nil => exact ⟨rfl, rfl⟩
  | cons e r ih =>
   obtain ⟨a, b⟩ := ih (i + 1)
   obtain ⟨c, d⟩ := OVal.KR (sub nm i) (glue nm (fun k => if k = nm then v' else vs k) vs) vs e (fun k hk => by
    rw [WS hk.up]; simp [hk.ne])
   simp only [ovL, ohL, a, b, c, d, and_self]
 rw [Fl, I3, Sk, hroot, (BS 0 l).1, (BS 0 l).2]
 exact ⟨rfl, rfl⟩
theorem WT {α : Type} [AVal α] [OVal α] {nm j v' : Nat} {vs : Nat → Nat} {l : List α} {b : Box} {hp : Hp} (hj : j < 10000) (hp0 : hp = (nm, ⟨v', false, OVal.ty α, AVal.n α, ovL nm vs 0 l⟩) :: BS [j] ((j, b) :: ohL nm vs 0 l)) :
  Bf hp (oh nm (glue nm (fun k => if k = nm then v' else vs k) vs) l) := by
 rw [(Mb l).2, AK]
 refine ⟨AM.2 fun p hp' => ?_, ⟨by rw [hp0]; exact Cm, trivial⟩⟩
 obtain ⟨q, _, hq⟩ := Cs hp'
 have hne : p.1 ≠ nm := hq.ne
 have hge := hq.ge
 rw [hp0, A4 (fun e => hne e.symm), BE (by simp; omega), A4 (by omega)]
 exact AM.1 (Eo nm vs 0 l) p hp'
end Go.Proofs.YteeiaaogmjbcjaaGreat.Av
set_option linter.unusedVariables false
set_option maxRecDepth 100000
set_option linter.unusedVariables false
set_option linter.unusedSimpArgs false
namespace Go.Proofs.YteeiaaogmjbcjaaGreat
open Go.RowKit Go.Proofs.YteeiaaogmjbcjaaGreat.Av Go.Proofs.YteeiaaogmjbcjaaGreat.Ml
open Go.Proofs.YteeiaaogmjbcjaaGreat.Av.AVal (av)

def dig (k : Nat) : List UInt8 := if h : k < 10 then [UInt8.ofNat (48 + k)] else dig (k / 10) ++ [UInt8.ofNat (48 + k % 10)]
termination_by k
decreasing_by exact Nat.div_lt_self (by omega) (by decide)
def L2 (k : Nat) : ByteArray := ⟨(dig k).toArray⟩
theorem PA {k : Nat} (h : k < 10) : dig k = [UInt8.ofNat (48 + k)] := by rw [dig, dif_pos h]
theorem PB {k : Nat} (h : ¬ k < 10) : dig k = dig (k / 10) ++ [UInt8.ofNat (48 + k % 10)] := by rw [dig, dif_neg h]

theorem W2 : ∀ (n k : Nat), 1 ≤ n → k < 10 ^ n → (dig k).length ≤ n
 | 0, _, h, _ => absurd h (by decide)
 | n + 1, k, _, hk => by
  by_cases h : k < 10
  ·rw [PA h]; simp
  ·rw [PB h]
   have h1 : 1 ≤ n := by
    rcases Nat.eq_zero_or_pos n with rfl | h1
    ·simp at hk; omega
    ·exact h1
   have := W2 n (k / 10) h1 (by rw [Nat.pow_succ] at hk; omega)
   simp; exact this

def Jc (n : Int) : ByteArray := if -4611686018427387904 ≤ n ∧ n ≤ 4611686018427387903 then (if n < 0 then ⟨#[45]⟩ ++ L2 (-n).toNat else L2 n.toNat) else ⟨#[]⟩
theorem Mc (k : Nat) (hk : k ≤ 9223372036854775808) : (L2 k).size ≤ 64 := by
 have := W2 20 k (by decide) (by omega)
 show (List.toArray _).size ≤ 64
 simp; omega
theorem Abb (n : Int) : (Jc n).size ≤ 65 := by
 unfold Jc
 split
 ·split
  ·rw [ByteArray.size_append]; have := Mc (-n).toNat (by omega); have h : (⟨#[45]⟩ : ByteArray).size = 1 := rfl; omega
  ·have := Mc n.toNat (by omega); omega
 ·show (0 : Nat) ≤ 65; omega

theorem U1 {k : Nat} (h : k < 10) : L2 k = ⟨[UInt8.ofNat (48 + k)].toArray⟩ := by unfold L2; rw [PA h]
theorem U2 {k : Nat} (h : ¬ k < 10) : L2 k = L2 (k / 10) ++ ⟨[UInt8.ofNat (48 + k % 10)].toArray⟩ := by
 unfold L2; rw [PB h]; first | (rw [ByteArray.mk_append_mk]; done) | (rw [ByteArray.mk_append_mk]; simp)
theorem Xh (m : Nat) (h : m < 256) : AV.int .u8 ((UInt8.ofNat m).toNat : Int) = .int .u8 (m : Int) := by
 rw [UInt8.toNat_ofNat']; congr 1; omega

end Go.Proofs.YteeiaaogmjbcjaaGreat
set_option linter.unusedVariables false
set_option linter.unusedSimpArgs false
set_option maxRecDepth 100000
namespace Go.Proofs.YteeiaaogmjbcjaaGreat
open Go.RowKit Go.Proofs.YteeiaaogmjbcjaaGreat.Av Go.Proofs.YteeiaaogmjbcjaaGreat.Ml
open Go.Proofs.YteeiaaogmjbcjaaGreat.Av.AVal (av)
open OVal (ov oh on)

def ZA (k : Int) : ByteArray := ⟨#[109]⟩ ++ L2 k.toNat
class Mk (α : Type) where
 mkv : Int → α → α
 cnt : α → Nat
open Mk (mkv cnt)
instance : Mk Int := ⟨fun k _ => k, fun _ => 1⟩
instance : Mk ByteArray := ⟨fun k _ => ZA k, fun _ => 1⟩
section
variable {α : Type} [Mk α]
def mkL : Int → List α → List α
 | _, [] => []
 | k, x :: r => mkv k x :: mkL (k + (cnt x : Int)) r
def G4 : List α → Nat
 | [] => 0
 | x :: r => cnt x + G4 r
instance : Mk (List α) := ⟨mkL, G4⟩
theorem Z5 (l : List α) : cnt l = G4 l := rfl
end
class MkB (α : Type) [Mk α] [AE α] : Prop where
 le : ∀ x : α, cnt x ≤ AE.bulk x
instance : MkB Int := ⟨fun _ => Nat.le_refl _⟩
instance : MkB ByteArray := ⟨fun s => by show 1 ≤ s.size + 1; omega⟩
theorem FD {α : Type} [Mk α] [AE α] [MkB α] : ∀ l : List α, G4 l + 1 ≤ AE.bulk l
 | [] => by simp [G4, AE.bulk]
 | x :: r => by
  have h1 := MkB.le x
  have h2 := FD r
  simp only [G4, AE.bulk, List.map_cons, List.sum_cons] at h1 h2 ⊢
  omega
instance {α : Type} [Mk α] [AE α] [MkB α] : MkB (List α) := ⟨fun l => by have := FD l; rw [Z5]; omega⟩
/-! lending -/
section
variable {α : Type} [AVal α] [OVal α]
end
section
variable {α β : Type} [AVal α] [OVal α] [AVal β] [OVal β]
end
structure TS where
 m : Nat
 s : ByteArray
end Go.Proofs.YteeiaaogmjbcjaaGreat
set_option linter.unusedVariables false
set_option linter.unusedSimpArgs false
set_option maxRecDepth 100000
set_option linter.unusedVariables false
set_option linter.unusedSimpArgs false
set_option maxRecDepth 100000
namespace Go.Proofs.YteeiaaogmjbcjaaGreat
open Go.RowKit Go.Proofs.YteeiaaogmjbcjaaGreat.Av Go.Proofs.YteeiaaogmjbcjaaGreat.Ml
open Go.Proofs.YteeiaaogmjbcjaaGreat.Av.AVal (av)
open OVal (ov oh on)

def Cb (l : List Ask) : List Int := (l.filter fun a => decide (a.kind = 0)).map Ask.arm
def EI (l : List Ask) : List Int := if E4 l = true then Je (EH (Cb l)) else []
theorem Yh {l : List Ask} {k : Nat} (h : k < l.length) : Cb (l.take (k + 1)) = Cb (l.take k) ++ (if l[k].kind = 0 then [l[k].arm] else []) := by
 unfold Cb
 rw [List.take_succ_eq_append_getElem h, List.filter_append, List.map_append]
 congr 1
 by_cases hk : l[k].kind = 0 <;> simp [hk]
theorem SZ : Cb [] = [] := rfl
theorem S0 (l : List Ask) (k : Nat) : (Cb (l.take k)).length ≤ k := by
 unfold Cb
 rw [List.length_map]
 refine Nat.le_trans (List.length_filter_le _ _) ?_
 rw [List.length_take]; omega
theorem L0 (nm : Nat) (l : List Ask) (hx : AE.bulk l ≤ 1048576) : AH Tryz.prog 18 [.agg [.sl (l.map av)]] [] (Aat nm (EI l)) := by
 have hl := BJ l
 refine GX.H rfl ?_
 have C := Jv l hx
 simp +contextual -dsimp (maxSteps := 2000000) only [↓SD, SU, simprocAttr, GX, Aa]
 cases hb : E4 l
 case false =>
  rw [hb] at C
  refine Ag _ C ?_
  simp +contextual -dsimp (maxSteps := 2000000) only [↓SD, SU, simprocAttr]
  refine Ai.new 2 nm 3 1 rfl fun v => ?_
  refine Ai.post (oh nm (fun _ => v) ([] : List Int)) ?_
  rw [D5]
  simp +contextual -dsimp (maxSteps := 2000000) only [↓SD, SU, simprocAttr, Cm]
  exact ⟨fun _ => v, by simp [EI, hb, Fl], by rw [EI, if_neg (by rw [hb]; decide), D5]; rfl⟩
 rw [hb] at C
 refine Ag _ C ?_
 obtain ⟨hall, hn1, hn2⟩ := KF hb
 simp +contextual -dsimp (maxSteps := 2000000) only [↓SD, SU, simprocAttr, Aa]
 intro v
 refine AG (X := Nat × Nat) (fun x => ⟨[(3, .row 9 x.2 (Cb (l.take x.1)).length), (11, .sl (l.map av)), (12, .int .i64 l.length), (13, .int .i64 x.1)], [(9, ⟨x.2, false, 3, 1, (Cb (l.take x.1)).map av⟩)]⟩) (fun x => x.1 ≤ l.length) (fun x => l.length - x.1) (0, v) (Nat.zero_le _) (by simp +contextual -dsimp only [↓SD, SU, simprocAttr, SZ]) (by simp +contextual -dsimp only [↓SD, SU, simprocAttr, SZ]) ?_
 rintro ⟨k, u⟩ hk
 dsimp only at hk ⊢
 have hle := S0 l k
 by_cases hlt : k < l.length
 ·have e := getD_map av l k .top hlt
  have ht := Yh hlt
  generalize l[k] = a at *
  obtain ⟨G, hG⟩ : ∃ G, G = Cb (l.take k) := ⟨_, rfl⟩
  have hGt : List.take G.length (G.map (av : Int → AV)) = G.map av := List.take_of_length_le (by simp)
  rw [← hG] at ht hle ⊢
  by_cases hq : a.kind = 0
  ·rw [if_pos hq] at ht
   simp +contextual -dsimp (maxSteps := 2000000) only [↓SD, SU, simprocAttr, Aa, hlt, e, JP, hq, hGt]
   intro v2
   refine ⟨⟨by omega, by unfold maxLen; omega⟩, fun u' => ⟨by omega, Ai.le ⟨(k + 1, u'), ⟨hlt, (by first | omega | (simp only; omega))⟩, rfl⟩ (by simp +contextual -dsimp only [↓SD, SU, simprocAttr, Int.natCast_add, ht, List.length_append]) (by simp +contextual -dsimp only [↓SD, SU, simprocAttr, ht, List.map_append, Ae])⟩⟩
  ·rw [if_neg hq, List.append_nil] at ht
   simp +contextual -dsimp (maxSteps := 2000000) only [↓SD, SU, simprocAttr, Aa, hlt, e, JP, hq]
   intro v2
   refine ⟨by omega, Ai.le ⟨(k + 1, u), ⟨hlt, (by first | omega | (simp only; omega))⟩, rfl⟩ (by simp +contextual -dsimp only [↓SD, SU, simprocAttr, Int.natCast_add, ht]) (by simp +contextual -dsimp only [↓SD, SU, simprocAttr, ht])⟩
 ·obtain rfl : k = l.length := by omega
  rw [List.take_length] at hle ⊢
  simp +contextual -dsimp (maxSteps := 2000000) only [↓SD, SU, simprocAttr, Aa, Nat.lt_irrefl]
  refine Ac [9] (Vn 9 u (Cb l) (by omega)) (by simp +contextual -dsimp only [↓SD, SU, simprocAttr]) ?_
  rintro r hp' ⟨rfl, rfl⟩
  have hs := Ow (Cb l)
  simp +contextual -dsimp (maxSteps := 2000000) only [↓SD, SU, simprocAttr, Aa, hs]
  have CC := Oj 9 u (EH (Cb l)) (by omega)
  rw [hs] at CC
  refine Ac [9] CC (by simp +contextual -dsimp only [↓SD, SU, simprocAttr]) ?_
  rintro r hp' ⟨rfl, rfl⟩
  simp +contextual -dsimp (maxSteps := 2000000) only [↓SD, SU, simprocAttr]
  refine Ai.trim 9 (Je (EH (Cb l))).length Cm ?_
  refine Ai.ren 2 9 nm (v := u) (n := (Je (EH (Cb l))).length) rfl Cm rfl fun v' => ?_
  refine Ai.post (oh nm (fun _ => v') (Je (EH (Cb l)))) ?_
  rw [D5]
  have ht : List.take (Je (EH (Cb l))).length ((Je (EH (Cb l)) ++ Abu (EH (Cb l))).map (av : Int → AV)) = (Je (EH (Cb l))).map av := by
   rw [List.map_append, List.take_append_of_le_length (by simp), List.take_of_length_le (by simp)]
  simp +contextual -dsimp (maxSteps := 2000000) only [↓SD, SU, simprocAttr, Cm, ht]
  exact ⟨fun _ => v', by simp [EI, hb, Fl], by rw [EI, if_pos hb, D5]⟩
end Go.Proofs.YteeiaaogmjbcjaaGreat
