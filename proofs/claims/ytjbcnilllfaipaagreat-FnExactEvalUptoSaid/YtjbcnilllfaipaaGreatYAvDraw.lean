/-
 FUNCTIONS, and regions that draw their order. Conditions: none.
-/
import Derived.Test.YtjbcnilllfaipaaGreatYAvC
import Derived.Orders
import Derived.Still
set_option linter.unusedVariables false
set_option linter.unusedSimpArgs false

namespace Go.Proofs.YtjbcnilllfaipaaGreat.Av
open Go.RowKit

inductive GU where
 | t (i : Nat)
 | c (agg : Bool) (n i : Nat)
def Aa6 (P : Program) : ResultVar → Option GU
 | .tmp i => some (.t i)
 | .cell i ty => match Lq P ty, B4 P ty with
   | some g, some n => some (.c g n i)
   | _, _ => none
def I2 (P : Program) : List ResultVar → Option (List GU)
 | [] => some []
 | r :: rs => match Aa6 P r, I2 P rs with
   | some x, some xs => some (x :: xs)
   | _, _ => none
def Aeo (hp : Hp) (fr : Nat → AV) (r : GU) (K : AV → Prop) : Prop :=
 match r with
 | .t i => K (fr i)
 | .c g n i => FX hp g n (fr i) K
def Cg (hp : Hp) (fr : Nat → AV) : List GU → (List AV → Prop) → Prop
 | [], K => K []
 | r :: rs, K => Aeo hp fr r fun x => Cg hp fr rs fun xs => K (x :: xs)
def JI (hp : Hp) : List AV → AV
 | [x] => x.pur hp
 | xs => .tup (xs.map (AV.pur hp))
def entry : Nat → List AV → List (Nat × AV)
 | _, [] => []
 | i, x :: xs => (i, x) :: entry (i + 1) xs

def Ret (rs : List GU) (res : AV) : Exit → St → Prop
 | .normal, s => Cg s.hp (BJ s.fr) rs fun xs => JI s.hp xs = res
 | .ret, s => Cg s.hp (BJ s.fr) rs fun xs => JI s.hp xs = res
 | _, _ => False

section
variable {E : Env}
def SC (s : List (Nat × AV)) : List (Nat × AV) → Prop
 | [] => True
 | (i, x) :: r => BJ s i = x ∧ SC s r
def Bg (s : Hp) : Hp → Prop
 | [] => True
 | (k, b) :: r => Aw s k = some b ∧ Bg s r
theorem UM {s : List (Nat × AV)} : ∀ {t : List (Nat × AV)}, SC s t → ∀ i, BJ t i = .top ∨ BJ t i = BJ s i
 | [], _, i => .inl rfl
 | (j, x) :: r, h, i => by
  simp only [BJ]
  split
  ·rename_i e; subst e; exact .inr h.1.symm
  ·exact UM h.2 i
theorem O3 {s : Hp} : ∀ {t : Hp}, Bg s t → ∀ k b, Aw t k = some b → Aw s k = some b
 | [], _, k, b, h => by cases h
 | (j, x) :: r, h, k, b, hk => by
  simp only [Aw] at hk
  split at hk
  ·rename_i e; subst e; cases hk; exact h.1
  ·exact O3 h.2 k b hk
theorem WI.drop {S : Nat → Prop} {w : World} {μ : Mu} {hp hp' : Hp} (h : WI E S w μ hp) (hh : ∀ k b, Aw hp' k = some b → Aw hp k = some b) : WI E S w μ hp' :=
 ⟨h.ext, h.lt, h.base, h.new, h.fresh, fun k bx hk => h.box k bx (hh k bx hk), fun k k' bx bx' B B' b hk hk' => h.apart k k' bx bx' B B' b (hh _ _ hk) (hh _ _ hk'), h.le⟩
end
def AbX (rs : List GU) (Post : AV → Hp → Prop) : Exit → St → Prop
 | .normal, s => Af s fun t => Cg t.hp (BJ t.fr) rs fun xs => ∃ hp', Bg t.hp hp' ∧ Post (JI t.hp xs) hp'
 | .ret, s => Af s fun t => Cg t.hp (BJ t.fr) rs fun xs => ∃ hp', Bg t.hp hp' ∧ Post (JI t.hp xs) hp'
 | _, _ => False

theorem MV : ∀ (xs : List AV) (k i : Nat) (x : AV), BJ (entry k xs) i = x → x = .top ∨ (k ≤ i ∧ xs[i - k]? = some x)
 | [], k, i, x, h => .inl h.symm
 | y :: ys, k, i, x, h => by
  simp only [entry, BJ] at h
  split at h
  ·rename_i hk; subst hk; right; simp [h]
  ·rename_i hk
   rcases MV ys (k + 1) i x h with h | ⟨h1, h2⟩
   ·exact .inl h
   ·right; exact ⟨by omega, by rw [show i - k = (i - (k + 1)) + 1 by omega]; simpa using h2⟩

theorem Aba {P : Program} {E : Env} {S : Nat → Prop} {w : World} {μ : Mu} {hp : Hp} {t : TypeId} {g : Bool} {n : Nat} {x : AV} {v : Value} {K : AV → Prop} (hg : Lq P t = some g) (hn : B4 P t = some n) (hw : WI E S w μ hp) (hv : VR S w μ v x) (h : FX hp g n x K) :
  ∃ b p u y, v = .pointer (some ⟨b, p, none⟩) ∧ (loadVar t ⟨b, p, none⟩).run P w = .ok u w ∧ VR S w μ u y ∧ K y := by
 have fin : ∀ (cs : List AV) (off : Nat), F2 g cs off n K → (∃ b p, v = .pointer (some ⟨b, p, none⟩) ∧ DB S w μ b p (cs.drop off)) → ∃ b p u y, v = .pointer (some ⟨b, p, none⟩) ∧ (loadVar t ⟨b, p, none⟩).run P w = .ok u w ∧ VR S w μ u y ∧ K y := by
  rintro cs off hk ⟨b, p, h1, h2⟩
  unfold F2 at hk
  cases g with
  | true =>
   obtain ⟨u, h3, h4⟩ := (FI (P := P) hg hn h2).1 rfl (by simp; omega)
   exact ⟨b, p, u, _, h1, h3, h4, hk.2⟩
  | false =>
   obtain ⟨u, h3, h4⟩ := (FI (P := P) hg hn h2).2 rfl (cs.getD off .top) (by rw [Fc hk.1]; simp [hk.1])
   exact ⟨b, p, u, _, h1, h3, h4, hk.2⟩
 unfold FX at h
 split at h
 ·obtain ⟨b, p, hb⟩ := hv.LO
  rw [hb] at hv
  exact fin _ 0 h ⟨b, p, hb, by simpa using hv.SO.1⟩
 ·rename_i k ver i off
  split at h
  ·rename_i bx hk
   obtain ⟨⟨hver, hi⟩, h⟩ := h
   refine fin _ off h ?_
   cases hv with
   | ptr _ _ _ _ b cap esz hμ =>
    obtain ⟨B, hB, hz, hh⟩ := hw.box k bx hk
    rw [hver, hμ] at hB
    cases hB
    obtain ⟨a1, a2, a3, cur, a4, a5, a6, a7, a8⟩ := hh
    refine ⟨b, i * esz + off, rfl, ?_⟩
    rw [Fc hi]
    exact (a8.atR a4 hi).drop off
  ·exact h.elim
 ·exact h.elim

section
variable {P : Program} {E : Env}

theorem JL {S : Nat → Prop} {w : World} {μ : Mu} {hp : Hp} {tmps : Array Value} {fr : Nat → AV} (hw : WI E S w μ hp) (hf : ∀ t, VR S w μ (tmps.getD t Go.undef) (fr t)) : ∀ {l : List ResultVar} {rs : List GU} {K : List AV → Prop}, I2 P l = some rs → Cg hp fr rs K →
  ∃ vs xs, (l.mapM (fun | .tmp t => pure (tmps.getD t Go.undef) | .cell a t => do loadVar t (← asAddr (tmps.getD a Go.undef)) : ResultVar → Sem Value)).run P w = .ok vs w ∧ VRs S w μ vs xs ∧ K xs
 | [], rs, K, hl, h => by cases hl; exact ⟨[], [], rfl, VRs.nil, h⟩
 | r :: l, rs, K, hl, h => by
  unfold I2 at hl
  split at hl
  ·rename_i ir irs h1 h2
   cases hl
   unfold Cg at h
   have step : ∃ v x, ((fun | .tmp t => pure (tmps.getD t Go.undef) | .cell a t => do loadVar t (← asAddr (tmps.getD a Go.undef)) : ResultVar → Sem Value) r).run P w = .ok v w ∧ VR S w μ v x ∧ Cg hp fr irs fun xs => K (x :: xs) := by
    unfold Aa6 at h1
    split at h1
    ·rename_i i
     cases h1
     exact ⟨_, _, rfl, hf i, h⟩
    ·rename_i i ty
     split at h1
     ·rename_i g n hg hn
      cases h1
      obtain ⟨b, p, u, y, e1, e2, e3, e4⟩ := Aba (P := P) hg hn hw (hf i) h
      exact ⟨u, y, by simp only [e1, asAddr, Sem.run_bind, Sem.run_pure, Result.andThen_ok]; exact e2, e3, e4⟩
     ·cases h1
   obtain ⟨v, x, hr, hv, h⟩ := step
   obtain ⟨vs, xs, hrs, hvs, hK⟩ := JL hw hf h2 h
   refine ⟨v :: vs, x :: xs, ?_, VRs.cons hv hvs, hK⟩
   rw [List.mapM_cons]
   simp only [Sem.run_bind, hr, Result.andThen_ok, hrs, Sem.run_pure]
  ·cases hl

theorem ZU {own : List (Nat × Nat)} {f : FuncId} {fn : Func} {c : Code} {ic : BV} {rs : List GU} {args : List AV} {res : AV} (hf : P.funcs[f]? = some fn) (hb : fn.body = some c) (hcall : Dy P f = true) (hlow : Low P fn.ntmps own c ic)
  (hres : I2 P fn.results.toList = some rs) (hlen : args.length ≤ fn.ntmps) (hcl : ∀ x ∈ args, Ac x) (hcr : Ac res) (h : awp P ic (Ret rs res) ⟨entry 0 args, []⟩) : Ap P f args res := by
 refine ⟨hcall, hcl, fun S w vs hS hv => ?_⟩
 have hvl : vs.length = args.length := hv.1
 let E : Env := ⟨w, S, fun _ => False, mu0⟩
 have hW : WI E S w mu0 [] := ⟨⟨rfl, rfl, rfl, Nat.le_refl _, fun _ _ _ => rfl⟩, hS, fun _ h => h, fun _ h => .inl h, ⟨1, Nat.zero_lt_one, fun _ _ _ => rfl, fun _ _ h => by cases h⟩, fun k bx h => (by cases h), fun k k' bx bx' B B' b h => (by cases h), Mu.le.refl _⟩
 have hR : Rep E fn.ntmps ⟨entry 0 args, []⟩ { tmps := vs.toArray ++ Array.replicate (fn.ntmps - vs.toArray.size) Go.undef, defers := [] } w := by
  refine ⟨rfl, by simp; omega, S, mu0, hW, fun t => ?_⟩
  show VR S w mu0 _ (BJ (entry 0 args) t)
  generalize hx : BJ (entry 0 args) t = x
  rcases MV args 0 t x hx with h | ⟨_, h⟩
  ·subst h; exact .top _
  ·simp only [Nat.sub_zero] at h
   have ht : t < vs.length := by rw [hvl]; exact (List.getElem?_eq_some_iff.1 h).1
   refine hv.2 t _ x ?_ h
   simp only [Array.getD_eq_getD_getElem?]
   rw [Array.getElem?_append_left (by simpa using ht)]
   simp [ht]
 have key := Rx hlow h hR
 refine calls_of_wp hf hb (wp_mono key fun e a' w' ⟨s, hq, hr⟩ => ?_)
 have fin : Cg s.hp (BJ s.fr) rs (fun xs => JI s.hp xs = res) → a'.defers = [] ∧ ∃ v, (results fn a'.tmps).run P w' = .ok v w' ∧ ∃ v', Ending.returned v = Ending.returned v' ∧ VR (fun b => S b ∨ (w.heap.size ≤ b ∧ b < w'.heap.size)) w' mu0 v' res ∧ Below w.heap.size w w' := by
  intro hq
  obtain ⟨hd, hn, S', μ', hw', hf'⟩ := hr
  obtain ⟨us, xs, h1, h2, h3⟩ := JL (P := P) hw' hf' hres hq
  have hrun : (results fn a'.tmps).run P w' = .ok (if h : us.toArray.size = 1 then us.toArray[0] else .tuple us.toArray) w' := by
   have : fn.results = fn.results.toList.toArray := by simp
   unfold results
   rw [this, List.mapM_toArray, map_eq_pure_bind]
   simp only [Sem.run_bind]
   refine (congrArg (fun r => (Result.andThen r _).andThen _) h1).trans ?_
   simp only [Result.andThen_ok, Sem.run_pure]
  refine ⟨hd, _, hrun, _, rfl, ?_, ⟨hw'.ext.os, hw'.ext.tape, hw'.ext.output, hw'.ext.size, fun b hb => hw'.ext.block b hb (fun h => h)⟩⟩
  have hvr : VR S' w' μ' (if h : us.toArray.size = 1 then us.toArray[0] else .tuple us.toArray) res := by
   rw [← h3]
   by_cases h4 : us.length = 1
   ·obtain ⟨u, rfl⟩ := List.length_eq_one_iff.1 h4
    obtain ⟨x, rfl⟩ := List.length_eq_one_iff.1 (h2.1 ▸ h4)
    rw [dif_pos (by rfl)]
    exact (h2.2 0 u x rfl rfl).pur hw'
   ·have hx : JI s.hp xs = .tup (xs.map (AV.pur s.hp)) := by
     unfold JI
     split
     ·rename_i x; exact absurd h2.1 (by simpa using h4)
     ·rfl
    rw [dif_neg (by simpa using h4), hx]
    refine .tup _ _ (by simpa using h2.1) (fun i v x p q => ?_)
    simp only [List.getElem?_map, Option.map_eq_some_iff] at q
    obtain ⟨y, hy, rfl⟩ := q
    exact (h2.2 i v y (by simpa using p) hy).pur hw'
  refine (hcr _ _ _ _ hvr).mono (fun b hb => ?_) (Cc.refl _ _) (Mu.le.refl _)
  rcases hw'.new b hb with h | h | h
  ·exact .inl h
  ·exact .inr ⟨h, hw'.lt b hb⟩
  ·exact h.elim
 cases e <;> first | exact fin hq | exact hq.elim

theorem ZT {own : List (Nat × Nat)} {f : FuncId} {fn : Func} {c : Code} {ic : BV} {rs : List GU} {args : List AV} {hp : Hp} {Post : AV → Hp → Prop} (hf : P.funcs[f]? = some fn) (hb : fn.body = some c) (hcall : Dy P f = true) (hlow : Low P fn.ntmps own c ic)
  (hres : I2 P fn.results.toList = some rs) (hlen : args.length ≤ fn.ntmps) (h : awp P ic (AbX rs Post) ⟨entry 0 args, hp⟩) : Ay P f args hp Post := by
 refine ⟨hcall, fun S w μ vs hW hv => ?_⟩
 have hvl : vs.length = args.length := hv.1
 have hR : Rep ⟨w, S, Hr μ hp, μ⟩ fn.ntmps ⟨entry 0 args, hp⟩ { tmps := vs.toArray ++ Array.replicate (fn.ntmps - vs.toArray.size) Go.undef, defers := [] } w := by
  refine ⟨rfl, by simp; omega, S, μ, hW, fun t => ?_⟩
  show VR S w μ _ (BJ (entry 0 args) t)
  generalize hx : BJ (entry 0 args) t = x
  rcases MV args 0 t x hx with h | ⟨_, h⟩
  ·subst h; exact .top _
  ·simp only [Nat.sub_zero] at h
   have ht : t < vs.length := by rw [hvl]; exact (List.getElem?_eq_some_iff.1 h).1
   refine hv.2 t _ x ?_ h
   simp only [Array.getD_eq_getD_getElem?]
   rw [Array.getElem?_append_left (by simpa using ht)]
   simp [ht]
 have key := Rx hlow h hR
 refine calls_of_wp hf hb (wp_mono key fun e a' w' ⟨s, hq, hr⟩ => ?_)
 have fin : (Af s fun t => Cg t.hp (BJ t.fr) rs fun xs => ∃ hp', Bg t.hp hp' ∧ Post (JI t.hp xs) hp') → a'.defers = [] ∧ ∃ v, (results fn a'.tmps).run P w' = .ok v w' ∧ ∃ v' r hp' S' μ', Ending.returned v = Ending.returned v' ∧ Post r hp' ∧ VR S' w' μ' v' r ∧ WI ⟨w, S, Hr μ hp, μ⟩ S' w' μ' hp' := by
  intro hq
  obtain ⟨t, hq, hr⟩ := hq.run _ _ _ _ hr
  obtain ⟨hd, hn, S', μ', hw', hf'⟩ := hr
  obtain ⟨us, xs, h1, h2, hp', h3, h4⟩ := JL (P := P) hw' hf' hres hq
  have hrun : (results fn a'.tmps).run P w' = .ok (if h : us.toArray.size = 1 then us.toArray[0] else .tuple us.toArray) w' := by
   have : fn.results = fn.results.toList.toArray := by simp
   unfold results
   rw [this, List.mapM_toArray, map_eq_pure_bind]
   simp only [Sem.run_bind]
   refine (congrArg (fun r => (Result.andThen r _).andThen _) h1).trans ?_
   simp only [Result.andThen_ok, Sem.run_pure]
  refine ⟨hd, _, hrun, _, _, hp', S', μ', rfl, h4, ?_, hw'.drop (O3 h3)⟩
  by_cases h9 : us.length = 1
  ·obtain ⟨u, rfl⟩ := List.length_eq_one_iff.1 h9
   obtain ⟨x, rfl⟩ := List.length_eq_one_iff.1 (h2.1 ▸ h9)
   rw [dif_pos (by rfl)]
   exact (h2.2 0 u x rfl rfl).pur hw'
  ·have hx : JI t.hp xs = .tup (xs.map (AV.pur t.hp)) := by
    unfold JI
    split
    ·rename_i x; exact absurd h2.1 (by simpa using h9)
    ·rfl
   rw [dif_neg (by simpa using h9), hx]
   refine .tup _ _ (by simpa using h2.1) (fun i v x p q => ?_)
   simp only [List.getElem?_map, Option.map_eq_some_iff] at q
   obtain ⟨y, hy, rfl⟩ := q
   exact (h2.2 i v y (by simpa using p) hy).pur hw'
 cases e <;> first | exact fin hq | exact hq.elim

theorem Vb {f : FuncId} {args : List AV} {res : AV} {Post : AV → Hp → Prop} (h : Ay P f args [] Post) (h1 : ∀ x ∈ args, Ac x) (h2 : Ac res) (hp : ∀ r hp', Post r hp' → r = res ∨ (r = .Ar ∧ res = .sl [])) : Ap P f args res := by
 obtain ⟨hc, h⟩ := h
 refine ⟨hc, h1, fun S w vs hS hv => ?_⟩
 have hW : WI ⟨w, S, Hr mu0 [], mu0⟩ S w mu0 [] := ⟨⟨rfl, rfl, rfl, Nat.le_refl _, fun _ _ _ => rfl⟩, hS, fun _ h => h, fun _ h => .inl h, ⟨1, Nat.zero_lt_one, fun _ _ _ => rfl, fun _ _ h => by cases h⟩, fun k bx h => (by cases h), fun k k' bx bx' B B' b h => (by cases h), Mu.le.refl _⟩
 have hno : ∀ b, ¬ Hr mu0 [] b := by rintro b ⟨k, bx, B, h, _⟩; cases h
 refine (h S w mu0 vs hW hv).mono fun e w' ⟨v, r, hp', S', μ', he, hpost, hvr, hw'⟩ => ⟨v, he, ?_, ⟨hw'.ext.os, hw'.ext.tape, hw'.ext.output, hw'.ext.size, fun b hb => hw'.ext.block b hb (hno b)⟩⟩
 have hsub : ∀ b, S' b → S b ∨ (w.heap.size ≤ b ∧ b < w'.heap.size) := fun b hb => by
  rcases hw'.new b hb with h | h | h
  ·exact .inl h
  ·exact .inr ⟨h, hw'.lt b hb⟩
  ·exact (hno b h).elim
 rcases hp r hp' hpost with e | ⟨e, e'⟩
 ·subst e
  exact (h2 _ _ _ _ hvr).mono hsub (Cc.refl _ _) (Mu.le.refl _)
 ·subst e e'
  cases hvr
  exact .sl0 none 0 (Nat.zero_le _)

/-! ### Ghost steps -/
theorem Af.le {s t : St} {T : St → Prop} (hT : T t) (h1 : SC s.fr t.fr) (h2 : Bg s.hp t.hp) : Af s T := by
 refine ⟨?_⟩
 rintro E nt a w ⟨hd, hn, S, μ, hw, hf⟩
 refine ⟨t, hT, hd, hn, S, μ, hw.drop (O3 h2), fun i => ?_⟩
 rcases UM h1 i with h | h
 ·rw [h]; exact .top _
 ·rw [h]; exact hf i

theorem Af.frz {s : St} {T : St → Prop} (k : Nat) (h : Af ⟨s.fr, KG s.hp k⟩ T) : Af s T := by
 refine ⟨?_⟩
 rintro E nt a w ⟨hd, hn, S, μ, hw, hf⟩
 cases hk : Aw s.hp k with
 | none =>
  refine h.run E nt a w ⟨hd, hn, S, μ, ?_, hf⟩
  unfold KG; rw [hk]; exact hw
 | some bx =>
  obtain ⟨S', h1, h2⟩ := hw.frz hk
  exact h.run E nt a w ⟨hd, hn, S', μ, h1, fun t => (hf t).mono h2 (Cc.refl _ _) (Mu.le.refl _)⟩
theorem Af.pur {s : St} {T : St → Prop} (i : Nat) (h : Af ⟨(i, (BJ s.fr i).pur s.hp) :: s.fr, s.hp⟩ T) : Af s T := by
 refine ⟨?_⟩
 rintro E nt a w ⟨hd, hn, S, μ, hw, hf⟩
 refine h.run E nt a w ⟨hd, hn, S, μ, hw, fun t => ?_⟩
 simp only [BJ]
 split
 ·rename_i e; subst e; exact (hf i).pur hw
 ·exact hf t
theorem Af.MZ {s : St} {T : St → Prop} (k0 i off k : Nat) (ty : TypeId) (esz : Nat) {b : Box} (hb : Aw s.hp k0 = some b) (hfz : b.frz = false) (hi : i < b.es.length) (hc : (b.es.getD i .top).cells[off]? = some .Ar) (hne : k ≠ k0)
  (h : ∀ v, Af ⟨s.fr, (k, ⟨v, false, ty, esz, []⟩) :: (k0, { b with es := b.es.set i ((b.es.getD i .top).Gd off [.row k v 0]) }) :: s.hp⟩ T) : Af s T := by
 refine ⟨?_⟩
 rintro E nt a w ⟨hd, hn, S, μ, hw, hf⟩
 obtain ⟨N, hN0, hN, _⟩ := hw.fresh
 have hle : Mu.le μ (μ.put k N ⟨none, 0, esz⟩) := Mu.ML (hN k N (Nat.le_refl _))
 let b' : Box := { b with es := b.es.set i ((b.es.getD i .top).Gd off [.row k N 0]) }
 have hget' : ∀ j, Aw ((k, (⟨N, false, ty, esz, []⟩ : Box)) :: (k0, b') :: s.hp) j = if k = j then some ⟨N, false, ty, esz, []⟩ else if k0 = j then some b' else Aw s.hp j := fun j => rfl
 have hold : ∀ j bj, Aw s.hp j = some bj → ∀ B', (μ.put k N ⟨none, 0, esz⟩) j bj.ver = some B' → μ j bj.ver = some B' := fun j bj hj B' hB' => by
  obtain ⟨B0, h0, _⟩ := hw.box j bj hj
  have := hle _ _ _ h0
  rw [this] at hB'; cases hB'; exact h0
 -- the box that j had before
 have hprev : ∀ j bj, j ≠ k → Aw ((k, (⟨N, false, ty, esz, []⟩ : Box)) :: (k0, b') :: s.hp) j = some bj → ∃ bo, Aw s.hp j = some bo ∧ bo.ver = bj.ver ∧ bo.frz = bj.frz := fun j bj hjk hj => by
  rw [hget', if_neg (fun e => hjk e.symm)] at hj
  by_cases h0 : k0 = j
  ·rw [if_pos h0] at hj; cases hj; subst h0; exact ⟨b, hb, rfl, rfl⟩
  ·rw [if_neg h0] at hj; exact ⟨bj, hj, rfl, rfl⟩
 refine (h N).run E nt a w ⟨hd, hn, S, μ.put k N ⟨none, 0, esz⟩, ⟨hw.ext, hw.lt, hw.base, hw.new, Mu.GX hN0 hw.fresh, fun j bj hj => ?_, ?_, hw.le.trans hle⟩, fun t => (hf t).mono (fun _ h => h) (Cc.refl _ _) hle⟩
 ·rw [hget'] at hj
  by_cases hkj : k = j
  ·rw [if_pos hkj] at hj; cases hj; subst hkj
   exact ⟨_, Mu.BR _ _ _ _, rfl, rfl⟩
  ·rw [if_neg hkj] at hj
   by_cases h0 : k0 = j
   ·rw [if_pos h0] at hj; cases hj; subst h0
    obtain ⟨B0, h1, hz0, hh⟩ := hw.box k0 b hb
    refine ⟨B0, hle _ _ _ h1, hz0, ?_⟩
    cases hbl : B0.blk with
    | none => rw [hbl] at hh; simp only at hh; rw [hh] at hi; simp at hi
    | some g =>
     rw [hbl] at hh
     obtain ⟨a1, a2, a3, cu, a4, a5, a6, a7, a8⟩ := hh
     refine ⟨a1, a2, a3, cu, a4, a5, a6, by simp only [b', List.length_set]; exact a7, ?_⟩
     have he : b.es.getD i .top = b.es[i] := Fc hi _
     have hm := a8.1 b.es[i] (List.getElem_mem hi)
     have hok : b.es[i].ok = true := by
      by_cases hq : b.es[i].isAgg = true
      ·simp [AV.ok, hq]
      ·have : b.es[i].cells = [b.es[i]] := by cases hx : b.es[i] <;> first | rfl | (rw [hx] at hq; simp [AV.isAgg] at hq)
       simp [AV.ok, hm.2 b.es[i] (by rw [this]; simp)]
     rw [he] at hc
     have hoff : off < b.es[i].cells.length := (List.getElem?_eq_some_iff.1 hc).1
     have hsc := Oa (e := b.es[i]) (off := off) (xs := [.row k N 0]) hok (by simp [AV.one]) (by simp; omega)
     refine ⟨fun e hmem => ?_, fun i' j' e x p q => ?_⟩
     ·simp only [b', he] at hmem
      rcases List.mem_or_eq_of_mem_set hmem with h3 | h3
      ·exact a8.1 e h3
      ·subst h3
       rw [hsc.1]
       exact ⟨by rw [Sq _ _ _ (by simp; omega)]; exact hm.1, Sp hm.2 (by simp [AV.one])⟩
     ·simp only [b', he, List.getElem?_set] at p
      by_cases hii : i = i'
      ·subst hii
       simp only [if_true, hi, Option.some.injEq] at p
       subst p
       rw [hsc.1, Sr _ _ _ _ (by simp; omega)] at q
       by_cases hj : off ≤ j' ∧ j' < off + [AV.row k N 0].length
       ·obtain rfl : j' = off := by simp at hj; omega
        rw [if_pos hj] at q
        simp at q
        subst q
        obtain ⟨v, c1, c2⟩ := a8.2 i j' b.es[i] .Ar (List.getElem?_eq_getElem hi) hc
        refine ⟨v, c1, ?_⟩
        cases c2
        exact .JO k N 0 esz (Mu.BR _ _ _ _)
       ·rw [if_neg hj] at q
        obtain ⟨v, c1, c2⟩ := a8.2 i j' b.es[i] x (List.getElem?_eq_getElem hi) q
        exact ⟨v, c1, c2.mono (fun _ h => h) (Cc.refl _ _) hle⟩
      ·rw [if_neg hii] at p
       obtain ⟨v, c1, c2⟩ := a8.2 i' j' e x p q
       exact ⟨v, c1, c2.mono (fun _ h => h) (Cc.refl _ _) hle⟩
   ·rw [if_neg h0] at hj
    obtain ⟨B0, h1, hz0, hh⟩ := hw.box j bj hj
    refine ⟨B0, hle _ _ _ h1, hz0, ?_⟩
    cases hbl : B0.blk with
    | none => rw [hbl] at hh; exact hh
    | some g =>
     rw [hbl] at hh
     obtain ⟨a1, a2, a3, cu, a4, a5, a6, a7, a8⟩ := hh
     exact ⟨a1, a2, a3, cu, a4, a5, a6, a7, a8.mono (fun _ h => h) (Cc.refl _ _) hle⟩
 ·intro j j' bj bj' Bj Bj' g hj hj' hjj hf1 hf2 hBj hBj' hbl
  by_cases hkj : j = k
  ·subst hkj
   rw [hget', if_pos rfl] at hj; cases hj
   rw [Mu.BR] at hBj; cases hBj; cases hbl
  ·by_cases hkj' : j' = k
   ·subst hkj'
    rw [hget', if_pos rfl] at hj'; cases hj'
    rw [Mu.BR] at hBj'; cases hBj'; simp
   ·obtain ⟨bo, g1, g2, g3⟩ := hprev j bj hkj hj
    obtain ⟨bo', g1', g2', g3'⟩ := hprev j' bj' hkj' hj'
    rw [← g2] at hBj; rw [← g2'] at hBj'
    exact hw.apart j j' bo bo' Bj Bj' g g1 g1' hjj (g3.trans hf1) (g3'.trans hf2) (hold j bo g1 _ hBj) (hold j' bo' g1' _ hBj') hbl
end

end Go.Proofs.YtjbcnilllfaipaaGreat.Av

namespace Go.Proofs.YtjbcnilllfaipaaGreat.Av
open Go.RowKit

def Ax.tmps : Ax → List Nat
 | .t i => [i]
 | .c _ | .s _ => []
def IOp.Hl : IOp → List Nat
 | .Ms _ _ _ x => x.tmps
 | .slO _ _ _ _ ps => ps.flatMap fun p => p.2.tmps
 | .store _ a x => a.tmps ++ x.tmps
 | .append _ _ _ _ s x => s.tmps ++ x.tmps
 | .WW _ _ _ _ s x => s.tmps ++ x.tmps
 | .mkSlice _ _ _ _ x => x.tmps
 | .s2b _ _ x => x.tmps
 | .Vx _ _ _ _ s x => s.tmps ++ x.tmps
 | .LS _ x => x.tmps
 | .D6 _ as => as.flatMap Ax.tmps
 | .Lf f as => f.tmps ++ as.flatMap Ax.tmps
 | _ => []
def IOp.HS : IOp → Bool
 | .mov _ | .BQ _ _ | .Nl _ _ _ | .len _ _ | .slF _ _ _ | .AbI _ _ _ | .Ed _ | .extract _ _ | .MN _ _ _ | .Vc _ _ => true
 | _ => false
def Fe (d : Option Nat) (v : AV) (F : Nat → AV) : Nat → AV :=
 match d with
 | some d => fun t => if d = t then v else F t
 | none => F
theorem KB (s : St) (d : Option Nat) (x : AV) (hp : Hp) : BJ (s.put d x hp).fr = Fe d x (BJ s.fr) := by
 cases d <;> rfl
theorem MT {d d' : Option Nat} (h : ∀ k, d = some k → d' ≠ some k) (v u : AV) (F : Nat → AV) : Fe d' u (Fe d v F) = Fe d v (Fe d' u F) := by
 cases d with
 | none => rfl
 | some d => cases d' with
  | none => rfl
  | some e =>
   have hne : d ≠ e := fun e' => h d rfl (by rw [e'])
   funext t
   simp only [Fe]
   by_cases h1 : e = t
   ·rw [if_pos h1, if_neg (by omega), if_pos h1]
   ·rw [if_neg h1]
    by_cases h2 : d = t
    ·rw [if_pos h2, if_pos h2]
    ·rw [if_neg h2, if_neg h2, if_neg h1]
theorem Yz {d : Option Nat} {v : AV} {F : Nat → AV} {t : Nat} (h : d ≠ some t) : Fe d v F t = F t := by
 cases d with
 | none => rfl
 | some d => simp only [Fe]; rw [if_neg (fun e => h (by rw [e]))]
theorem Ax.Er {x : Ax} {d : Option Nat} {v : AV} {F : Nat → AV} (h : ∀ t ∈ x.tmps, d ≠ some t) : x.ev (Fe d v F) = x.ev F := by
 cases x with
 | t i => exact Yz (h i (by simp [Ax.tmps]))
 | c y => rfl
 | s y => rfl

section
variable {P : Program} {E : Env} {nt : Nat}

theorem PJ {d : Option Nat} {v : AV} {F : Nat → AV} {esz : Nat} : ∀ {ps : List (Nat × Ax)} {es : List AV} {K : List AV → Prop}, (∀ p ∈ ps, ∀ t ∈ p.2.tmps, d ≠ some t) → D8 (Fe d v F) esz es ps K → D8 F esz es ps K
 | [], es, K, _, h => h
 | (i, x) :: r, es, K, hd, h => by
  unfold D8 at h ⊢
  have e := Ax.Er (v := v) (F := F) (hd (i, x) (by simp))
  simp only at e
  rw [e] at h
  exact ⟨h.1, PJ (fun p hp => hd p (by simp [hp])) h.2⟩
theorem Acb {io : IOp} (hw : io.quiet = false) {d : Option Nat} {v : AV} {F : Nat → AV} (hd : ∀ t ∈ io.Hl, d ≠ some t) {hp : Hp} {K : AV → Hp → Prop} (h : io.sem P (Fe d v F) hp K) : io.sem P F hp K := by
 cases io <;> simp only [IOp.quiet, Bool.true_eq_false] at hw
 case Ms k ty n x => simp only [IOp.sem, Ax.Er (v := v) (F := F) hd] at h ⊢; exact h
 case slO k ty m z ps => simp only [IOp.sem] at h ⊢; exact PJ (fun p hp t ht => hd t (by simp only [IOp.Hl, List.mem_flatMap]; exact ⟨p, hp, ht⟩)) h
 case store n a x =>
  simp only [IOp.Hl, List.mem_append] at hd
  simp only [IOp.sem, Ax.Er (v := v) (F := F) (fun t ht => hd t (.inl ht)), Ax.Er (v := v) (F := F) (fun t ht => hd t (.inr ht))] at h ⊢; exact h
 case append k ty esz bytes s x =>
  simp only [IOp.Hl, List.mem_append] at hd
  simp only [IOp.sem, Ax.Er (v := v) (F := F) (fun t ht => hd t (.inl ht)), Ax.Er (v := v) (F := F) (fun t ht => hd t (.inr ht))] at h ⊢; exact h
 case WW k ty esz bytes s x =>
  simp only [IOp.Hl, List.mem_append] at hd
  simp only [IOp.sem, Ax.Er (v := v) (F := F) (fun t ht => hd t (.inl ht)), Ax.Er (v := v) (F := F) (fun t ht => hd t (.inr ht))] at h ⊢; exact h
 case mkSlice k ty bytes z x => simp only [IOp.sem, Ax.Er (v := v) (F := F) hd] at h ⊢; exact h
 case s2b k ty x => simp only [IOp.sem, Ax.Er (v := v) (F := F) hd] at h ⊢; exact h
 case Vx k ty bytes z s x =>
  simp only [IOp.Hl, List.mem_append] at hd
  simp only [IOp.sem, Ax.Er (v := v) (F := F) (fun t ht => hd t (.inl ht)), Ax.Er (v := v) (F := F) (fun t ht => hd t (.inr ht))] at h ⊢; exact h
 case LS neg x => simp only [IOp.sem, Ax.Er (v := v) (F := F) hd] at h ⊢; exact h
 case D6 f as =>
  have e : (as.map fun x => (x.ev (Fe d v F)).Bv hp) = as.map fun x => (x.ev F).Bv hp := List.map_congr_left fun x hx => by rw [Ax.Er fun t ht => hd t (by simp only [IOp.Hl, List.mem_flatMap]; exact ⟨x, hx, ht⟩)]
  simp only [IOp.sem, e] at h ⊢; exact h
 case Lf f as =>
  have e : (as.map fun x => (x.ev (Fe d v F)).Bv hp) = as.map fun x => (x.ev F).Bv hp := List.map_congr_left fun x hx => by rw [Ax.Er fun t ht => hd t (by simp only [IOp.Hl, List.mem_append, List.mem_flatMap]; exact .inr ⟨x, hx, ht⟩)]
  simp only [IOp.sem, e, Ax.Er (v := v) (F := F) (fun t ht => hd t (by simp only [IOp.Hl, List.mem_append]; exact .inl ht))] at h ⊢; exact h

def QV (P : Program) (E : Env) (F : Nat → AV) (hp : Hp) (o : Oper) (x : AV) : Prop :=
 ∀ S w μ ρ, WI E S w μ hp → Fits S w μ F ρ o.op.operands.toList → (∀ v, ρ (.const v) = v) → (∀ f, ρ (.func f) = .func (.func f) #[] #[]) → Bc P ρ o w (Cq E S μ w hp x)
theorem QV.put {F : Nat → AV} {hp : Hp} {o : Oper} {x v : AV} {d : Option Nat} {ops : Array Oper} (hd : ∀ k, d = some k → k ∉ o.looksAt ops) (h : QV P E F hp o x) : QV P E (Fe d v F) hp o x := by
 intro S w μ ρ hw hf h1 h2
 refine h S w μ ρ hw (fun y hy iy hl => ?_) h1 h2
 have := hf y hy iy hl
 rwa [Ax.Er] at this
 intro t ht e
 refine hd t e (List.mem_append_left _ (List.mem_filterMap.2 ⟨y, hy, ?_⟩))
 unfold AB at hl
 split at hl
 ·cases hl; simp [Ax.tmps] at ht; rw [ht]
 ·split at hl <;> cases hl; simp [Ax.tmps] at ht
 ·rename_i u _; cases hv : K5 u <;> rw [hv] at hl <;> cases hl; simp [Ax.tmps] at ht
 ·cases hl; simp [Ax.tmps] at ht
 ·cases hl
theorem QV.Aab {F : Nat → AV} {hp : Hp} {o : Oper} {x v : AV} {d : Option Nat} {ops : Array Oper} (hd : ∀ k, d = some k → k ∉ o.looksAt ops) (h : QV P E (Fe d v F) hp o x) : QV P E F hp o x := by
 intro S w μ ρ hw hf h1 h2
 refine h S w μ ρ hw (fun y hy iy hl => ?_) h1 h2
 have := hf y hy iy hl
 rwa [Ax.Er]
 intro t ht e
 refine hd t e (List.mem_append_left _ (List.mem_filterMap.2 ⟨y, hy, ?_⟩))
 unfold AB at hl
 split at hl
 ·cases hl; simp [Ax.tmps] at ht; rw [ht]
 ·split at hl <;> cases hl; simp [Ax.tmps] at ht
 ·rename_i u _; cases hv : K5 u <;> rw [hv] at hl <;> cases hl; simp [Ax.tmps] at ht
 ·cases hl; simp [Ax.tmps] at ht
 ·cases hl

def Fv (g : Option (Nat × Bool)) (F : Nat → AV) : Option Bool :=
 match g with
 | none => some true
 | some (t, want) => match F t with
   | .bool b => some (b == want)
   | .tup _ => some false
   | _ => none
def He (g : Option (Nat × Bool)) : List Nat :=
 match g with
 | none => []
 | some (t, _) => [t]
theorem MD {g : Option (Nat × Bool)} {d : Option Nat} {v : AV} {F : Nat → AV} (h : ∀ t ∈ He g, d ≠ some t) : Fv g (Fe d v F) = Fv g F := by
 cases g with
 | none => rfl
 | some tw => obtain ⟨t, want⟩ := tw; simp only [Fv, Yz (h t (by simp [He]))]

def Yl (P : Program) (E : Env) (g : Option (Nat × Bool)) (o : Oper) (F : Nat → AV) (hp : Hp) (x : AV) : Prop :=
 (Fv g F = some true ∧ QV P E F hp o x) ∨ (Fv g F = some false ∧ x = .tup [])

def G1 (P : Program) (E : Env) (io : B9) (o : Oper) (K : (Nat → AV) → Hp → Prop) (F : Nat → AV) (hp : Hp) : Prop :=
 if io.op.quiet then ∃ x, Yl P E io.guard o F hp x ∧ K (Fe o.dst x F) hp
 else match Fv io.guard F with
  | some true => io.op.sem P F hp fun v hp' => K (Fe o.dst v F) hp'
  | some false => K (Fe o.dst (.tup []) F) hp
  | none => False

def PE (P : Program) (E : Env) (ops : Array Oper) (il : List B9) (Q : (Nat → AV) → Hp → Prop) : Nat → Array Bool → (Nat → AV) → Hp → Prop
 | 0, listed, F, hp => Region.ready .any ops listed = [] ∧ Q F hp
 | fuel + 1, listed, F, hp => (Region.ready .any ops listed = [] → Q F hp) ∧
   ∀ i ∈ Region.ready .any ops listed, ∃ io o, il[i]? = some io ∧ ops[i]? = some o ∧ G1 P E io o (PE P E ops il Q fuel (listed.setIfInBounds i true)) F hp

def VP (E : Env) (nt : Nat) (F : Nat → AV) (hp : Hp) (a : Act) (w : World) : Prop :=
 a.defers = [] ∧ a.tmps.size = nt ∧ ∃ S μ, WI E S w μ hp ∧ ∀ t, VR S w μ (a.tmps.getD t Go.undef) (F t)
theorem VP.put {F : Nat → AV} {a : Act} {w w' : World} {d : Option Nat} {v : Value} {x : AV} {hp' : Hp} {S S' : Nat → Prop} {μ μ' : Mu} (hd : a.defers = []) (hn : a.tmps.size = nt) (hf : ∀ t, VR S w μ (a.tmps.getD t Go.undef) (F t)) (hdok : Rl nt d = true)
  (hv : VR S' w' μ' v x) (hw : WI E S' w' μ' hp') (hS : ∀ b, S b → S' b) (hsame : Cc S w w') (hμ : Mu.le μ μ') : VP E nt (Fe d x F) hp' (a.put d v) w' := by
 cases d with
 | none => exact ⟨hd, hn, S', μ', hw, fun t => (hf t).mono hS hsame hμ⟩
 | some d =>
  have hlt : d < nt := by simpa [Rl] using hdok
  refine ⟨hd, by simp [Act.put, hn], S', μ', hw, fun t => ?_⟩
  show VR S' w' μ' ((a.tmps.setIfInBounds d v).getD t Go.undef) (if d = t then x else F t)
  by_cases h : d = t
  ·subst h
   have : (a.tmps.setIfInBounds d v).getD d Go.undef = v := by simp [hn, hlt]
   rw [this, if_pos rfl]; exact hv
  ·rw [if_neg h]
   have : (a.tmps.setIfInBounds d v).getD t Go.undef = a.tmps.getD t Go.undef := by
    simp [Array.getElem?_setIfInBounds_ne h]
   rw [this]
   exact (hf t).mono hS hsame hμ

theorem Lo {S : Nat → Prop} {w : World} {μ : Mu} {a : Act} {F : Nat → AV} (hf : ∀ t, VR S w μ (a.tmps.getD t Go.undef) (F t)) {ops : Array Oper} {o : Oper} {g : Option (Nat × Bool)} (hg : G4 ops o.guard = some g) {b : Bool} (hb : Fv g F = some b) : Region.wanted o (yielded ops a.tmps) = b := by
 cases g with
 | none => simp [Fv] at hb; rw [hb]; exact M3 hg
 | some tw =>
  obtain ⟨t, want⟩ := tw
  obtain ⟨w1, w2⟩ := Qg hf hg
  simp only [Fv] at hb
  split at hb
  ·rename_i c hc; rw [w1 c hc]; simpa using hb
  ·rename_i xs hc; rw [w2 xs hc]; simpa using hb
  ·cases hb

theorem EK {own : List (Nat × Nat)} {ops : Array Oper} : ∀ {l : List Oper} {il : List B9}, Dv P nt own ops l = some il → ∀ (i : Nat) (o : Oper), l[i]? = some o → ∃ io, il[i]? = some io ∧ Hu P nt own ops o = some io
 | [], il, h, i, o, ho => by simp at ho
 | x :: l, il, h, i, o, ho => by
  unfold Dv at h
  split at h
  ·rename_i y ys h1 h2
   cases h
   cases i with
   | zero => simp at ho; subst ho; exact ⟨y, rfl, h1⟩
   | succ i => obtain ⟨io, h3, h4⟩ := EK h2 i o (by simpa using ho); exact ⟨io, by simpa using h3, h4⟩
  ·cases h
theorem K6 {own : List (Nat × Nat)} {ops : Array Oper} {o : Oper} {io : B9} (h : Hu P nt own ops o = some io) : G4 ops o.guard = some io.guard ∧ OP P own o = some io.op ∧ Rl nt o.dst = true ∧ io.dst = o.dst := by
 unfold Hu at h
 split at h
 ·split at h
  ·cases h; exact ⟨by assumption, by assumption, by assumption, rfl⟩
  ·cases h
 ·cases h

theorem IP {own : List (Nat × Nat)} {ops : Array Oper} {il : List B9} (hl : Dv P nt own ops ops.toList = some il) {Q : (Nat → AV) → Hp → Prop} {Q' : Exit → Act → World → Prop} (hQ : ∀ F hp a w, Q F hp → VP E nt F hp a w → Q' .normal a w) :
  ∀ (fuel : Nat) (listed : Array Bool) (F : Nat → AV) (hp : Hp) (a : Act) (w : World), PE P E ops il Q fuel listed F hp → VP E nt F hp a w → wpAny P .any ops Q' fuel listed a w
 | 0, _, _, _, _, _, h, hr => ⟨h.1, hQ _ _ _ _ h.2 hr⟩
 | fuel + 1, listed, F, hp, a, w, h, hr => by
  refine ⟨fun h0 => hQ _ _ _ _ (h.1 h0) hr, fun i hi => ?_⟩
  obtain ⟨io, o, h1, h2, h3⟩ := h.2 i hi
  obtain ⟨io', h4, h5⟩ := EK hl i o (by simpa using h2)
  rw [h1] at h4
  cases h4
  obtain ⟨hg, hop, hdok, hdst⟩ := K6 h5
  obtain ⟨hd, hn, S, μ, hw, hf⟩ := hr
  unfold wpOp
  simp only [h2]
  unfold G1 at h3
  split at h3
  ·obtain ⟨x, hy, hk⟩ := h3
   rcases hy with ⟨hwt, hq⟩ | ⟨hwt, rfl⟩
   ·rw [if_pos (Lo hf hg hwt)]
    refine .inl ((hq S w μ a.eval hw (Pj hf _) (fun _ => rfl) (fun _ => rfl)).wp fun v w' ⟨S', c1, c2, c3, c4⟩ => ?_)
    exact IP hl hQ fuel _ _ _ _ _ hk (VP.put hd hn hf hdok c1 c2 c3 c4 (Mu.le.refl _))
   ·rw [if_neg (by rw [Lo hf hg hwt]; simp)]
    exact IP hl hQ fuel _ _ _ _ _ hk (VP.put hd hn hf hdok VR.undef hw (fun _ h => h) (Cc.refl _ _) (Mu.le.refl _))
  ·split at h3
   ·rename_i hwt
    rw [if_pos (Lo hf hg hwt)]
    refine .inl ((X8 hop h3 hw (Pj hf _) (fun _ => rfl) (fun _ => rfl)).wp fun v w' ⟨x, hp', S', μ', hk, c1, c2, c3, c4, c5⟩ => ?_)
    exact IP hl hQ fuel _ _ _ _ _ hk (VP.put hd hn hf hdok c1 c2 c3 c4 c5)
   ·rename_i hwt
    rw [if_neg (by rw [Lo hf hg hwt]; simp)]
    exact IP hl hQ fuel _ _ _ _ _ h3 (VP.put hd hn hf hdok VR.undef hw (fun _ h => h) (Cc.refl _ _) (Mu.le.refl _))
   ·exact h3.elim

/-! ### Which order serves all -/
def AdZ (l s : List Nat) : List Nat := l.foldl (fun s x => if s.contains x then s else x :: s) s
def Ld (ops : Array Oper) : List (List Nat) :=
 ops.toList.foldl (fun acc o => acc ++ [o.after.toList.foldl (fun s e => if Region.binds .any e then AdZ (e.on :: acc.getD e.on []) s else s) []]) []
def HY (ops : Array Oper) (D : List (List Nat)) : Bool :=
 (List.range ops.size).all fun j => match ops[j]? with
  | none => true
  | some o => (D.getD j []).all fun m => o.after.toList.any fun e => Region.binds .any e && decide (e.on < j) && (e.on == m || (D.getD e.on []).contains m)
def Jc (ops : Array Oper) (listed : Array Bool) : Prop := ∀ (j : Nat) (o : Oper), ops[j]? = some o → listed.getD j false = true → ∀ e ∈ o.after, Region.binds .any e = true → listed.getD e.on false = true
theorem Nv {ops : Array Oper} {D : List (List Nat)} (hD : HY ops D = true) {listed : Array Bool} (hc : Jc ops listed) : ∀ (n j : Nat), j ≤ n → ∀ o, ops[j]? = some o → (∀ e ∈ o.after, Region.binds .any e = true → listed.getD e.on false = true) → ∀ m ∈ D.getD j [], listed.getD m false = true := by
 intro n
 induction n with
 | zero =>
  intro j hj o ho hall m hm
  obtain rfl : j = 0 := by omega
  have hlt : 0 < ops.size := (Array.getElem?_eq_some_iff.1 ho).1
  simp only [HY, List.all_eq_true, List.mem_range] at hD
  have h1 := hD 0 hlt
  simp only [ho, List.all_eq_true] at h1
  obtain ⟨e, he, hb⟩ := List.any_eq_true.1 (h1 m hm)
  simp at hb
 | succ n ih =>
  intro j hj o ho hall m hm
  have hlt : j < ops.size := (Array.getElem?_eq_some_iff.1 ho).1
  have hD' := hD
  simp only [HY, List.all_eq_true, List.mem_range] at hD
  have h1 := hD j hlt
  simp only [ho, List.all_eq_true] at h1
  obtain ⟨e, he, hb⟩ := List.any_eq_true.1 (h1 m hm)
  simp only [Bool.and_eq_true, decide_eq_true_eq, Bool.or_eq_true, beq_iff_eq] at hb
  obtain ⟨⟨hb1, hlt'⟩, hb2⟩ := hb
  have he' : e ∈ o.after := Array.mem_def.2 he
  rcases hb2 with rfl | hb2
  ·exact hall e he' hb1
  ·have hl := hall e he' hb1
   have hlt2 : e.on < ops.size := by omega
   exact ih e.on (by omega) ops[e.on] (by simp [hlt2]) (hc e.on ops[e.on] (by simp [hlt2]) hl) m (by simpa using hb2)
theorem Le {ops : Array Oper} {listed : Array Bool} (hc : Jc ops listed) {i : Nat} (hi : i ∈ Region.ready .any ops listed) : Jc ops (listed.setIfInBounds i true) := by
 intro j o ho hj e he hb
 by_cases hij : i = j
 ·subst hij
  obtain ⟨_, o', ho', hall⟩ := mem_ready.1 hi
  rw [ho] at ho'
  cases ho'
  exact getD_set_true (hall e he hb)
 ·rw [getD_set_ne false hij] at hj
  exact getD_set_true (hc j o ho hj e he hb)

def Yy (ops : Array Oper) (il : List B9) (D : List (List Nat)) (listed : Array Bool) (i : Nat) : Bool :=
 match ops[i]?, il[i]? with
 | some oi, some ii => (List.range ops.size).all fun j => j == i || listed.getD j true || (D.getD j []).contains i ||
   (ii.op.quiet && match ops[j]?, il[j]? with
    | some oj, some ij => oi.apart ops oj && (match oj.dst with | some d => !(He ii.guard).contains d | none => true) && (match oi.dst with | some d => !(He ij.guard).contains d && !(ij.op.Hl).contains d | none => true) && (ij.op.quiet || ii.op.HS)
    | _, _ => true)
 | _, _ => false
def K2 (ops : Array Oper) (il : List B9) (D : List (List Nat)) : List Nat → Array Bool → Bool
 | [], listed => (Region.ready .any ops listed).isEmpty
 | i :: r, listed => (Region.ready .any ops listed).contains i && Yy ops il D listed i && K2 ops il D r (listed.setIfInBounds i true)

def YlP (P : Program) (E : Env) (ii : B9) (o : Oper) (F : Nat → AV) (hp : Hp) (x : AV) : Prop := Yl P E ii.guard o F hp x ∧ (ii.op.HS = true → ∀ hp', Yl P E ii.guard o F hp' x)
theorem Yl.put {g : Option (Nat × Bool)} {o : Oper} {F : Nat → AV} {hp : Hp} {x v : AV} {d : Option Nat} {ops : Array Oper} (h1 : ∀ k, d = some k → k ∉ o.looksAt ops) (h2 : ∀ t ∈ He g, d ≠ some t) (h : Yl P E g o F hp x) : Yl P E g o (Fe d v F) hp x := by
 unfold Yl at *
 rw [MD h2]
 exact h.imp (fun ⟨a, b⟩ => ⟨a, b.put h1⟩) id
theorem Yl.Aab {g : Option (Nat × Bool)} {o : Oper} {F : Nat → AV} {hp : Hp} {x v : AV} {d : Option Nat} {ops : Array Oper} (h1 : ∀ k, d = some k → k ∉ o.looksAt ops) (h2 : ∀ t ∈ He g, d ≠ some t) (h : Yl P E g o (Fe d v F) hp x) : Yl P E g o F hp x := by
 unfold Yl at *
 rw [MD h2] at h
 exact h.imp (fun ⟨a, b⟩ => ⟨a, b.Aab h1⟩) id
theorem YlP.put {ii : B9} {o : Oper} {F : Nat → AV} {hp : Hp} {x v : AV} {d : Option Nat} {ops : Array Oper} (h1 : ∀ k, d = some k → k ∉ o.looksAt ops) (h2 : ∀ t ∈ He ii.guard, d ≠ some t) (h : YlP P E ii o F hp x) : YlP P E ii o (Fe d v F) hp x :=
 ⟨h.1.put h1 h2, fun hpu hp' => (h.2 hpu hp').put h1 h2⟩

theorem Oc {io : IOp} {F : Nat → AV} {hp : Hp} {K K' : AV → Hp → Prop} (hq : io.quiet = false) (hk : ∀ v hp', K v hp' → K' v hp') (h : io.sem P F hp K) : io.sem P F hp K' := by
 cases io <;> simp only [IOp.quiet, Bool.true_eq_false] at hq
 case Ms k ty n x => exact ⟨h.1, fun v => hk _ _ (h.2 v)⟩
 case slO k ty m z ps =>
  simp only [IOp.sem] at h ⊢
  have : ∀ {ps : List (Nat × Ax)} {es : List AV} {L L' : List AV → Prop}, (∀ es, L es → L' es) → D8 F z.cells.length es ps L → D8 F z.cells.length es ps L' := by
   intro ps
   induction ps with
   | nil => intro es L L' hl h; exact hl _ h
   | cons p r ih => intro es L L' hl h; exact ⟨h.1, ih hl h.2⟩
  exact this (fun es h v => hk _ _ (h v)) h
 case store n a x =>
  simp only [IOp.sem, Lj] at h ⊢
  split at h
  ·split at h
   ·exact ⟨h.1, hk _ _ h.2⟩
   ·exact h
  ·exact h
 case append k ty esz bytes s x =>
  simp only [IOp.sem, Qc] at h ⊢
  split at h
  ·exact ⟨h.1, fun v => hk _ _ (h.2 v)⟩
  ·split at h
   ·exact ⟨h.1, fun v => hk _ _ (h.2 v)⟩
   ·exact h
  ·exact h
 case WW k ty esz bytes s x =>
  simp only [IOp.sem, Qc] at h ⊢
  split at h
  ·exact ⟨h.1, fun v => hk _ _ (h.2 v)⟩
  ·split at h
   ·exact ⟨h.1, fun v => hk _ _ (h.2 v)⟩
   ·exact h
  ·exact h
 case mkSlice k ty bytes z x =>
  simp only [IOp.sem] at h ⊢
  split at h
  ·exact ⟨h.1, fun v => hk _ _ (h.2 v)⟩
  ·exact h
 case Vx k ty bytes z s x =>
  simp only [IOp.sem, Y1] at h ⊢
  split at h
  ·exact ⟨h.1, fun v => hk _ _ (h.2 v)⟩
  ·exact h
 case s2b k ty x =>
  simp only [IOp.sem, AcU] at h ⊢
  split at h
  ·exact fun v => hk _ _ (h v)
  ·exact h
 case LS neg x =>
  simp only [IOp.sem] at h ⊢
  split at h
  ·exact ⟨fun e => hk _ _ (h.1 e), hk _ _ h.2⟩
  ·exact hk _ _ h
  ·exact h
 case D6 f as =>
  obtain ⟨hs, Post, h | h⟩ := h
  ·exact ⟨hs, Post, .inl ⟨h.1, fun r hp' hp => hk _ _ (h.2 r hp' hp)⟩⟩
  ·exact ⟨hs, Post, .inr ⟨h.1, fun r hp' hp => ⟨(h.2 r hp' hp).1, hk _ _ (h.2 r hp' hp).2⟩⟩⟩
 case Lf f as =>
  simp only [IOp.sem, Mz] at h ⊢
  split at h
  ·obtain ⟨hs, Post, h | h⟩ := h
   ·exact ⟨hs, Post, .inl ⟨h.1, fun r hp' hp => hk _ _ (h.2 r hp' hp)⟩⟩
   ·exact ⟨hs, Post, .inr ⟨h.1, fun r hp' hp => ⟨(h.2 r hp' hp).1, hk _ _ (h.2 r hp' hp).2⟩⟩⟩
  ·exact h

theorem KY {io : B9} {o : Oper} {K K' : (Nat → AV) → Hp → Prop} (h : ∀ F hp, K F hp → K' F hp) {F : Nat → AV} {hp : Hp} (hh : G1 P E io o K F hp) : G1 P E io o K' F hp := by
 unfold G1 at *
 split at hh
 ·rename_i hq; rw [if_pos hq]; obtain ⟨x, h1, h2⟩ := hh; exact ⟨x, h1, h _ _ h2⟩
 ·rename_i hq
  rw [if_neg hq]
  split at hh
  ·exact Oc (by simpa using hq) (fun v hp' => h _ _) hh
  ·exact h _ _ hh
  ·exact hh

theorem Zm {ii ij : B9} {oi oj : Oper} {ops : Array Oper} {v : AV} {K : (Nat → AV) → Hp → Prop} {F : Nat → AV} {hp : Hp} (hap : oi.apart ops oj = true) (hgi : ∀ t ∈ He ii.guard, oj.dst ≠ some t) (hgj : ∀ t ∈ He ij.guard, oi.dst ≠ some t) (hwj : ∀ t ∈ ij.op.Hl, oi.dst ≠ some t)
  (hqp : ij.op.quiet = true ∨ ii.op.HS = true) (hy : YlP P E ii oi F hp v) (h : G1 P E ij oj K (Fe oi.dst v F) hp) :
  G1 P E ij oj (fun F' hp' => YlP P E ii oi F' hp' v ∧ K (Fe oi.dst v F') hp') F hp := by
 obtain ⟨a1, a2, a3⟩ := Oper.apart_spec hap
 have keep : ∀ u, YlP P E ii oi (Fe oj.dst u F) hp v := fun u => hy.put a3 hgi
 unfold G1 at *
 split at h
 ·rename_i hq
  rw [if_pos hq]
  obtain ⟨x, h1, h2⟩ := h
  exact ⟨x, h1.Aab a1 hgj, keep x, by rw [← MT a2]; exact h2⟩
 ·rename_i hq
  have hpu : ii.op.HS = true := hqp.resolve_left hq
  have keep' : ∀ u hp', YlP P E ii oi (Fe oj.dst u F) hp' v := fun u hp' => ⟨(keep u).2 hpu hp', (keep u).2⟩
  rw [MD hgj] at h
  rw [if_neg hq]
  split at h
  ·exact Oc (by simpa using hq) (fun u hp' hk => ⟨keep' u hp', by rw [← MT a2]; exact hk⟩) (Acb (by simpa using hq) hwj h)
  ·exact ⟨keep _, by rw [← MT a2]; exact h⟩
  ·exact h

theorem Pg {ops : Array Oper} {il : List B9} {D : List (List Nat)} {listed : Array Bool} {i : Nat} {oi : Oper} {ii : B9} (hi : ops[i]? = some oi) (hii : il[i]? = some ii) (h : Yy ops il D listed i = true) :
  ∀ j oj ij, ops[j]? = some oj → il[j]? = some ij → j ≠ i → listed.getD j true = false → i ∈ D.getD j [] ∨ (ii.op.quiet = true ∧ oi.apart ops oj = true ∧ (∀ t ∈ He ii.guard, oj.dst ≠ some t) ∧ (∀ t ∈ He ij.guard, oi.dst ≠ some t) ∧ (∀ t ∈ ij.op.Hl, oi.dst ≠ some t) ∧ (ij.op.quiet = true ∨ ii.op.HS = true)) := by
 intro j oj ij hj hij hne hun
 simp only [Yy, hi, hii, List.all_eq_true, List.mem_range] at h
 have h1 := h j (Array.getElem?_eq_some_iff.1 hj).1
 simp only [hj, hij, Bool.or_eq_true, beq_iff_eq, hne, false_or, hun, Bool.false_eq_true, Bool.and_eq_true] at h1
 rcases h1 with h1 | ⟨h1, ⟨⟨h2, h3⟩, h4⟩, h5⟩
 ·exact .inl (by simpa using h1)
 ·refine .inr ⟨h1, h2, fun t ht e => ?_, fun t ht e => ?_, fun t ht e => ?_, h5⟩
  ·rw [e] at h3; simp at h3; exact h3 ht
  ·rw [e] at h4; simp at h4; exact h4.1 ht
  ·rw [e] at h4; simp at h4; exact h4.2 ht

theorem PD {ops : Array Oper} {il : List B9} {D : List (List Nat)} (hD : HY ops D = true) {Q : (Nat → AV) → Hp → Prop} {i : Nat} {oi : Oper} {ii : B9} {v : AV} (hi : ops[i]? = some oi) (hii : il[i]? = some ii) (hqi : ii.op.quiet = true) :
  ∀ (fuel : Nat) (listed : Array Bool) (F : Nat → AV) (hp : Hp), Jc ops listed →
   (∀ j oj ij, ops[j]? = some oj → il[j]? = some ij → j ≠ i → listed.getD j true = false → i ∈ D.getD j [] ∨ (ii.op.quiet = true ∧ oi.apart ops oj = true ∧ (∀ t ∈ He ii.guard, oj.dst ≠ some t) ∧ (∀ t ∈ He ij.guard, oi.dst ≠ some t) ∧ (∀ t ∈ ij.op.Hl, oi.dst ≠ some t) ∧ (ij.op.quiet = true ∨ ii.op.HS = true))) →
   i ∈ Region.ready .any ops listed → YlP P E ii oi F hp v → PE P E ops il Q fuel (listed.setIfInBounds i true) (Fe oi.dst v F) hp → PE P E ops il Q (fuel + 1) listed F hp := by
 intro fuel
 have here : ∀ {K : (Nat → AV) → Hp → Prop} {F hp}, YlP P E ii oi F hp v → K (Fe oi.dst v F) hp → ∃ io o, il[i]? = some io ∧ ops[i]? = some o ∧ G1 P E io o K F hp := fun hy hk => by
  refine ⟨ii, oi, hii, hi, ?_⟩
  unfold G1
  rw [if_pos hqi]
  exact ⟨v, hy.1, hk⟩
 induction fuel with
 | zero =>
  intro listed F hp hc Gi hr hy H
  refine ⟨fun h => (by rw [h] at hr; cases hr), fun j hj => ?_⟩
  by_cases hji : j = i
  ·subst hji; exact here hy H
  ·have := ready_mono hj hji
   rw [H.1] at this
   cases this
 | succ fuel ih =>
  intro listed F hp hc Gi hr hy H
  refine ⟨fun h => (by rw [h] at hr; cases hr), fun j hj => ?_⟩
  by_cases hji : j = i
  ·subst hji; exact here hy H
  ·obtain ⟨ij, oj, hij, hoj, h1⟩ := H.2 j (ready_mono hj hji)
   obtain ⟨hjun, oj', hoj', hall⟩ := mem_ready.1 hj
   rw [hoj] at hoj'
   cases hoj'
   have hiun := (mem_ready.1 hr).1
   have hnot : i ∉ D.getD j [] := fun hm => by
    have h2 := Nv hD hc j j (Nat.le_refl _) oj hoj hall i hm
    rcases Nat.lt_or_ge i listed.size with h' | h'
    ·simp [h'] at hiun h2; rw [hiun] at h2; cases h2
    ·simp [Array.getElem?_eq_none h'] at h2
   obtain ⟨_, f1, f2, f3, f4, f5⟩ := (Gi j oj ij hoj hij hji hjun).resolve_left hnot
   have h2 := Zm f1 f2 f3 f4 f5 hy h1
   refine ⟨ij, oj, hij, hoj, KY (fun F' hp' h3 => ih (listed.setIfInBounds j true) F' hp' (Le hc hj) (fun k ok ik hk hik hki hun => ?_) (ready_mono hr (Ne.symm hji)) h3.1 ?_) h2⟩
   ·refine Gi k ok ik hk hik hki ?_
    by_cases hjk : j = k
    ·subst hjk; exact hjun
    ·rw [getD_set_ne true hjk] at hun; exact hun
   ·rw [Array.setIfInBounds_comm _ _ hji]
    exact h3.2

theorem PC {ops : Array Oper} {il : List B9} {D : List (List Nat)} (hD : HY ops D = true) {Q : (Nat → AV) → Hp → Prop} {i : Nat} {oi : Oper} {ii : B9} (hi : ops[i]? = some oi) (hii : il[i]? = some ii) (hqi : ii.op.quiet = false)
  {fuel : Nat} {listed : Array Bool} {F : Nat → AV} {hp : Hp} (hc : Jc ops listed) (hlen : ∀ (j : Nat) (o : Oper), ops[j]? = some o → ∃ io, il[j]? = some io)
  (Gi : ∀ j oj ij, ops[j]? = some oj → il[j]? = some ij → j ≠ i → listed.getD j true = false → i ∈ D.getD j [] ∨ (ii.op.quiet = true ∧ oi.apart ops oj = true ∧ (∀ t ∈ He ii.guard, oj.dst ≠ some t) ∧ (∀ t ∈ He ij.guard, oi.dst ≠ some t) ∧ (∀ t ∈ ij.op.Hl, oi.dst ≠ some t) ∧ (ij.op.quiet = true ∨ ii.op.HS = true)))
  (hr : i ∈ Region.ready .any ops listed) (h : G1 P E ii oi (PE P E ops il Q fuel (listed.setIfInBounds i true)) F hp) : PE P E ops il Q (fuel + 1) listed F hp := by
 refine ⟨fun h => (by rw [h] at hr; cases hr), fun j hj => ?_⟩
 by_cases hji : j = i
 ·subst hji; exact ⟨ii, oi, hii, hi, h⟩
 ·exfalso
  obtain ⟨hjun, oj, hoj, hall⟩ := mem_ready.1 hj
  have hiun := (mem_ready.1 hr).1
  obtain ⟨ij, hij⟩ := hlen j oj hoj
  rcases Gi j oj ij hoj hij hji hjun with hm | ⟨hq, _⟩
  ·have h2 := Nv hD hc j j (Nat.le_refl _) oj hoj hall i hm
   rcases Nat.lt_or_ge i listed.size with h' | h'
   ·simp [h'] at hiun h2; rw [hiun] at h2; cases h2
   ·simp [Array.getElem?_eq_none h'] at h2
  ·rw [hqi] at hq; cases hq

theorem AaA {own : List (Nat × Nat)} {o : Oper} {io : IOp} {F : Nat → AV} {hp : Hp} {K : AV → Hp → Prop} (hl : OP P own o = some io) (hpu : io.HS = true) (h : io.sem P F hp K) : ∃ x, K x hp ∧ ∀ hp', QV P E F hp' o x := by
 cases io <;> simp only [IOp.HS, Bool.false_eq_true] at hpu
 case mov x =>
  refine ⟨x.ev F, h, fun hp' => ?_⟩
  obtain ⟨y, hy, hq⟩ := Dr (P := P) (E := E) (fr := F) (hp := hp') (K := fun v _ => v = x.ev F) hl rfl rfl
  cases hy
  exact hq
 case BQ off x =>
  simp only [IOp.sem, I8] at h
  split at h
  ·rename_i cs e1
   refine ⟨_, h, fun hp' => ?_⟩
   obtain ⟨y, hy, hq⟩ := Dr (P := P) (E := E) (fr := F) (hp := hp') (K := fun v _ => v = .obj (cs.drop off)) hl rfl (by simp only [IOp.sem, I8, e1])
   cases hy
   exact hq
  ·rename_i k v i o' e1
   refine ⟨_, h, fun hp' => ?_⟩
   obtain ⟨y, hy, hq⟩ := Dr (P := P) (E := E) (fr := F) (hp := hp') (K := fun w _ => w = .ptr k v i (o' + off)) hl rfl (by simp only [IOp.sem, I8, e1])
   cases hy
   exact hq
  ·exact h.elim
 case extract i a =>
  simp only [IOp.sem, Hh] at h
  split at h
  ·rename_i xs e1
   refine ⟨_, h.2, fun hp' => ?_⟩
   obtain ⟨y, hy, hq⟩ := Dr (P := P) (E := E) (fr := F) (hp := hp') (K := fun v _ => v = xs.getD i .top) hl rfl (by simp only [IOp.sem, Hh, e1]; exact ⟨h.1, trivial⟩)
   cases hy
   exact hq
  ·exact h.elim
 case MN e x i =>
  simp only [IOp.sem, FY] at h
  split at h
  ·rename_i es kd i' e1 e2
   refine ⟨_, h.2, fun hp' => ?_⟩
   obtain ⟨y, hy, hq⟩ := Dr (P := P) (E := E) (fr := F) (hp := hp') (K := fun v _ => v = .obj (es.getD i'.toNat .top).cells) hl rfl (by simp only [IOp.sem, FY, e1, e2]; exact ⟨h.1, trivial⟩)
   cases hy
   exact hq
  ·exact h.elim
  ·exact h.elim
 case Vc f as =>
  simp only [IOp.sem] at h
  obtain ⟨h0, r, h1, hk⟩ := h
  refine ⟨r, hk, fun hp' => ?_⟩
  obtain ⟨y, hy, hq⟩ := Dr (P := P) (E := E) (fr := F) (hp := hp') (K := fun v _ => v = r) hl rfl (by simp only [IOp.sem]; exact ⟨h0, r, h1, rfl⟩)
  cases hy
  exact hq
 case Ed a =>
  simp only [IOp.sem, GQ] at h
  have fin : (∀ K' : AV → Prop, K' (a.ev F) → GQ (a.ev F) K') → K (a.ev F) hp → ∃ x, K x hp ∧ ∀ hp', QV P E F hp' o x := fun hz hk => by
   refine ⟨a.ev F, hk, fun hp' => ?_⟩
   obtain ⟨y, hy, hq⟩ := Dr (P := P) (E := E) (fr := F) (hp := hp') (K := fun v _ => v = a.ev F) hl rfl (hz (fun v => v = a.ev F) rfl)
   cases hy
   exact hq
  split at h
  ·rename_i e1; exact fin (fun K' hk => by rw [e1] at hk ⊢; exact hk) h
  ·rename_i e1; exact fin (fun K' hk => by rw [e1] at hk ⊢; exact hk) h
  ·rename_i e1; exact fin (fun K' hk => by rw [e1] at hk ⊢; exact hk) h
  ·exact h.elim
 case len g a =>
  simp only [IOp.sem, Mx] at h
  have fin : ∀ z : AV, (∀ K' : AV → Prop, K' z → Mx g (a.ev F) K') → K z hp → ∃ x, K x hp ∧ ∀ hp', QV P E F hp' o x := fun z hz hk => by
   refine ⟨z, hk, fun hp' => ?_⟩
   obtain ⟨y, hy, hq⟩ := Dr (P := P) (E := E) (fr := F) (hp := hp') (K := fun v _ => v = z) hl rfl (hz (fun v => v = z) rfl)
   cases hy
   exact hq
  split at h
  ·rename_i e1; exact fin _ (fun K' hk => by rw [e1]; exact ⟨h.1, hk⟩) h.2
  ·rename_i e1; exact fin _ (fun K' hk => by rw [e1]; exact ⟨h.1, hk⟩) h.2
  ·rename_i e1; exact fin _ (fun K' hk => by rw [e1]; exact ⟨h.1, hk⟩) h.2
  ·rename_i e1; exact fin _ (fun K' hk => by rw [e1]; exact ⟨h.1, hk⟩) h.2
  ·exact h.elim
 case AbI op x y =>
  simp only [IOp.sem] at h
  obtain ⟨v, h1, h2⟩ := AbT h
  refine ⟨_, h1, fun hp' => ?_⟩
  obtain ⟨y, hy, hq⟩ := Dr (P := P) (E := E) (fr := F) (hp := hp') (K := fun w _ => w = v) hl rfl (by simp only [IOp.sem]; exact h2 _ rfl)
  cases hy
  exact hq
 case slF m z ps =>
  simp only [IOp.sem] at h
  obtain ⟨es, ⟨h1, h2⟩, h3⟩ := RF h
  refine ⟨_, h2, fun hp' => ?_⟩
  obtain ⟨y, hy, hq⟩ := Dr (P := P) (E := E) (fr := F) (hp := hp') (K := fun v _ => v = .sl es) hl rfl (by simp only [IOp.sem]; exact h3 _ ⟨h1, rfl⟩)
  cases hy
  exact hq
 case Nl g n a =>
  simp only [IOp.sem, FX] at h
  split at h
  ·rename_i cs e1
   cases g with
   | true =>
    refine ⟨_, h.2, fun hp' => ?_⟩
    obtain ⟨y, hy, hq⟩ := Dr (P := P) (E := E) (fr := F) (hp := hp') (K := fun v _ => v = .agg ((cs.drop 0).take n)) hl rfl (by simp only [IOp.sem, FX, e1, F2]; exact ⟨h.1, trivial⟩)
    cases hy
    exact hq
   | false =>
    refine ⟨_, h.2, fun hp' => ?_⟩
    obtain ⟨y, hy, hq⟩ := Dr (P := P) (E := E) (fr := F) (hp := hp') (K := fun v _ => v = cs.getD 0 .top) hl rfl (by simp only [IOp.sem, FX, e1, F2]; exact ⟨h.1, trivial⟩)
    cases hy
    exact hq
  ·exact h.elim
  ·exact h.elim

theorem Mv {own : List (Nat × Nat)} {ops : Array Oper} {o : Oper} {ii : B9} {Q : St → Prop} {rest : List B9} {s : St} (hlo : Hu P nt own ops o = some ii) (hq : ii.op.quiet = true) (h : BM P Q (ii :: rest) s) :
  ∃ x, YlP P E ii o (BJ s.fr) s.hp x ∧ BM P Q rest (s.put o.dst x s.hp) := by
 obtain ⟨hg, hop, hdok, hdst⟩ := K6 hlo
 have go : Fv ii.guard (BJ s.fr) = some true → (ii.op.sem P (BJ s.fr) s.hp fun v hp => BM P Q rest (s.put ii.dst v hp)) → ∃ x, YlP P E ii o (BJ s.fr) s.hp x ∧ BM P Q rest (s.put o.dst x s.hp) := by
  intro hw hs
  rw [hdst] at hs
  by_cases hpu : ii.op.HS = true
  ·obtain ⟨x, hk, hx⟩ := AaA (E := E) hop hpu hs
   exact ⟨x, ⟨.inl ⟨hw, hx _⟩, fun _ hp' => .inl ⟨hw, hx hp'⟩⟩, hk⟩
  ·obtain ⟨x, hk, hx⟩ := Dr (E := E) hop hq hs
   exact ⟨x, ⟨.inl ⟨hw, hx⟩, fun e => absurd e hpu⟩, hk⟩
 have skip : Fv ii.guard (BJ s.fr) = some false → BM P Q rest (s.put ii.dst (.tup []) s.hp) → ∃ x, YlP P E ii o (BJ s.fr) s.hp x ∧ BM P Q rest (s.put o.dst x s.hp) := by
  intro hw hs
  rw [hdst] at hs
  exact ⟨.tup [], ⟨.inr ⟨hw, rfl⟩, fun _ _ => .inr ⟨hw, rfl⟩⟩, hs⟩
 unfold BM at h
 cases hgd : ii.guard with
 | none => rw [hgd] at h; exact go (by rw [hgd]; rfl) h
 | some tw =>
  obtain ⟨t, want⟩ := tw
  rw [hgd] at h
  simp only at h
  split at h
  ·rename_i b hb
   by_cases hbw : b = want
   ·exact go (by rw [hgd]; simp [Fv, hb, hbw]) (h.1 hbw)
   ·have hnb : b = !want := by cases b <;> cases want <;> simp at hbw ⊢
    exact skip (by rw [hgd]; simp [Fv, hb, hnb]) (h.2 hnb)
  ·rename_i xs hb
   exact skip (by rw [hgd]; simp [Fv, hb]) h
  ·exact h.elim

theorem Mt {own : List (Nat × Nat)} {ops : Array Oper} {o : Oper} {ii : B9} {Q : St → Prop} {rest : List B9} {s : St} (hlo : Hu P nt own ops o = some ii) (hq : ii.op.quiet = false) (h : BM P Q (ii :: rest) s) :
  G1 P E ii o (fun F hp => ∃ s', BJ s'.fr = F ∧ s'.hp = hp ∧ BM P Q rest s') (BJ s.fr) s.hp := by
 obtain ⟨hg, hop, hdok, hdst⟩ := K6 hlo
 unfold G1
 rw [if_neg (by simp [hq])]
 have go : (ii.op.sem P (BJ s.fr) s.hp fun v hp => BM P Q rest (s.put ii.dst v hp)) → ii.op.sem P (BJ s.fr) s.hp fun v hp' => ∃ s', BJ s'.fr = Fe o.dst v (BJ s.fr) ∧ s'.hp = hp' ∧ BM P Q rest s' := fun hs =>
  Oc hq (fun v hp' hk => ⟨s.put ii.dst v hp', by rw [hdst]; exact KB s o.dst v hp', by cases ii.dst <;> rfl, hk⟩) hs
 have skip : BM P Q rest (s.put ii.dst (.tup []) s.hp) → ∃ s', BJ s'.fr = Fe o.dst (.tup []) (BJ s.fr) ∧ s'.hp = s.hp ∧ BM P Q rest s' := fun hs =>
  ⟨s.put ii.dst (.tup []) s.hp, by rw [hdst]; exact KB s o.dst _ _, by cases ii.dst <;> rfl, hs⟩
 unfold BM at h
 cases hgd : ii.guard with
 | none => rw [hgd] at h; exact go h
 | some tw =>
  obtain ⟨t, want⟩ := tw
  rw [hgd] at h
  simp only at h
  split at h
  ·rename_i b hb
   by_cases hbw : b = want
   ·have e : Fv (some (t, want)) (BJ s.fr) = some true := by simp [Fv, hb, hbw]
    rw [e]
    exact go (h.1 hbw)
   ·have hnb : b = !want := by cases b <;> cases want <;> simp at hbw ⊢
    have e : Fv (some (t, want)) (BJ s.fr) = some false := by simp [Fv, hb, hnb]
    rw [e]
    exact skip (h.2 hnb)
  ·rename_i xs hb
   have e : Fv (some (t, want)) (BJ s.fr) = some false := by simp [Fv, hb]
   rw [e]
   exact skip h
  ·exact h.elim

theorem Li {own : List (Nat × Nat)} {ops : Array Oper} {il : List B9} {D : List (List Nat)} (hD : HY ops D = true) (hl : Dv P nt own ops ops.toList = some il) {Q : St → Prop} : ∀ (σ : List Nat) (listed : Array Bool) (s : St), Jc ops listed → K2 ops il D σ listed = true →
  BM P Q (σ.filterMap (il[·]?)) s → PE P E ops il (fun F hp => ∃ s', BJ s'.fr = F ∧ s'.hp = hp ∧ Q s') σ.length listed (BJ s.fr) s.hp
 | [], listed, s, hc, ho, h => ⟨by simpa [K2] using ho, s, rfl, rfl, h⟩
 | i :: r, listed, s, hc, ho, h => by
  simp only [K2, Bool.and_eq_true] at ho
  obtain ⟨⟨hr, hf⟩, ho⟩ := ho
  have hr' : i ∈ Region.ready .any ops listed := by simpa using hr
  obtain ⟨_, oi, hoi, _⟩ := mem_ready.1 hr'
  obtain ⟨ii, hii, hlo⟩ := EK hl i oi (by simpa using hoi)
  have Gi := Pg hoi hii hf
  rw [List.filterMap_cons, hii] at h
  simp only at h
  have hcl := Le hc hr'
  cases hq : ii.op.quiet with
  | true =>
   obtain ⟨x, hy, hk⟩ := Mv (E := E) hlo hq h
   refine PD hD hoi hii hq r.length listed _ _ hc Gi hr' hy ?_
   have := Li hD hl r _ _ hcl ho hk
   rw [KB] at this
   have e : (s.put oi.dst x s.hp).hp = s.hp := by cases oi.dst <;> rfl
   rw [e] at this
   exact this
  | false =>
   refine PC hD hoi hii hq hc (fun j o hj => ?_) Gi hr' (KY (fun F hp ⟨s', e1, e2, hk⟩ => ?_) (Mt hlo hq h))
   ·obtain ⟨io, h1, _⟩ := EK hl j o (by simpa using hj)
    exact ⟨io, h1⟩
   ·subst e1 e2
    exact Li hD hl r _ s' hcl ho hk

def IM (il : List B9) : List Nat :=
 ((List.range il.length).filter fun i => (il[i]?).any (·.op.quiet)) ++ ((List.range il.length).filter fun i => !(il[i]?).any (·.op.quiet))
def So (P : Program) (nt : Nat) (own : List (Nat × Nat)) (ops : Array Oper) : Option (List B9) :=
 match Dv P nt own ops ops.toList with
 | some il => if HY ops (Ld ops) then
   if K2 ops il (Ld ops) (List.range ops.size) (Array.replicate ops.size false) then some ((List.range ops.size).filterMap (il[·]?))
   else if K2 ops il (Ld ops) (IM il) (Array.replicate ops.size false) ∧ (IM il).length = ops.size then some ((IM il).filterMap (il[·]?)) else none
  else none
 | none => none

/-! ### Regions in which several operations may come up at the same time: every order, as a tree -/
def U5 (ii : B9) : BV → BV
 | .region l => .region (ii :: l)
 | .seq (.region l) c => .seq (.region (ii :: l)) c
 | c => .seq (.region [ii]) c
def YG : List BV → BV
 | [] => .region []
 | [c] => c
 | c :: r => .both c (YG r)
def Se {α : Type} : List (Option α) → Option (List α)
 | [] => some []
 | none :: _ => none
 | some a :: r => (Se r).map (a :: ·)
def M5 (ops : Array Oper) (il : List B9) (D : List (List Nat)) : Nat → Array Bool → Option BV
 | 0, listed => if (Region.ready .any ops listed).isEmpty then some (.region []) else none
 | m + 1, listed => if (Region.ready .any ops listed).isEmpty then some (.region []) else
   match (Region.ready .any ops listed).find? (Yy ops il D listed ·) with
   | some i => (il[i]?).bind fun ii => (M5 ops il D m (listed.setIfInBounds i true)).map (U5 ii)
   | none => (Se ((Region.ready .any ops listed).map fun i => (il[i]?).bind fun ii => (M5 ops il D m (listed.setIfInBounds i true)).map (U5 ii))).map YG
theorem Oy {α β : Type} {f : β → Option α} : ∀ {l : List β} {r : List α}, Se (l.map f) = some r → ∀ b ∈ l, ∃ a ∈ r, f b = some a
 | [], r, h, b, hb => by cases hb
 | c :: l, r, h, b, hb => by
  rw [List.map_cons] at h
  cases hc : f c with
  | none => rw [hc] at h; cases h
  | some a =>
   rw [hc] at h
   simp only [Se, Option.map_eq_some_iff] at h
   obtain ⟨r', h1, rfl⟩ := h
   rcases List.mem_cons.1 hb with rfl | hb
   ·exact ⟨a, List.mem_cons_self, hc⟩
   ·obtain ⟨a', h2, h3⟩ := Oy h1 b hb
    exact ⟨a', List.mem_cons_of_mem _ h2, h3⟩
theorem Rv {Q : Exit → St → Prop} {s : St} : ∀ {l : List BV} {c : BV}, c ∈ l → awp P (YG l) Q s → awp P c Q s
 | [], c, h, _ => by cases h
 | [a], c, h, hs => by
  rw [List.mem_singleton] at h
  subst h
  exact hs
 | a :: b :: r, c, h, hs => by
  have hs' : awp P a Q s ∧ awp P (YG (b :: r)) Q s := hs
  rcases List.mem_cons.1 h with rfl | h
  ·exact hs'.1
  ·exact Rv h hs'.2
theorem PB {Q : St → Prop} {o : B9} {r : List B9} {s : St} (h : BM P Q (o :: r) s) : BM P (fun s' => BM P Q r s') [o] s := h
theorem ZW {Q : Exit → St → Prop} {ii : B9} {s : St} {c : BV} (h : awp P (U5 ii c) Q s) : BM P (fun s' => awp P c Q s') [ii] s := by
 unfold U5 at h
 split at h
 ·exact PB h
 ·exact PB h
 ·exact h
theorem ZZ {own : List (Nat × Nat)} {ops : Array Oper} {il : List B9} {D : List (List Nat)} (hD : HY ops D = true) (hl : Dv P nt own ops ops.toList = some il) {Q : Exit → St → Prop} : ∀ (n : Nat) (listed : Array Bool) (ic : BV) (s : St), Jc ops listed → M5 ops il D n listed = some ic →
  awp P ic Q s → PE P E ops il (fun F hp => ∃ s', BJ s'.fr = F ∧ s'.hp = hp ∧ Q .normal s') n listed (BJ s.fr) s.hp := by
 have step : ∀ {m : Nat} {listed : Array Bool} {i : Nat} {ii : B9} {c : BV} {s : St}, (∀ (ic : BV) (s : St), Jc ops (listed.setIfInBounds i true) → M5 ops il D m (listed.setIfInBounds i true) = some ic → awp P ic Q s →
    PE P E ops il (fun F hp => ∃ s', BJ s'.fr = F ∧ s'.hp = hp ∧ Q .normal s') m (listed.setIfInBounds i true) (BJ s.fr) s.hp) → Jc ops listed → i ∈ Region.ready .any ops listed → il[i]? = some ii → M5 ops il D m (listed.setIfInBounds i true) = some c → awp P (U5 ii c) Q s →
   ∃ oi, ops[i]? = some oi ∧ Hu P nt own ops oi = some ii ∧ (ii.op.quiet = true → ∃ x, YlP P E ii oi (BJ s.fr) s.hp x ∧ PE P E ops il (fun F hp => ∃ s', BJ s'.fr = F ∧ s'.hp = hp ∧ Q .normal s') m (listed.setIfInBounds i true) (Fe oi.dst x (BJ s.fr)) s.hp) ∧
    (ii.op.quiet = false → G1 P E ii oi (PE P E ops il (fun F hp => ∃ s', BJ s'.fr = F ∧ s'.hp = hp ∧ Q .normal s') m (listed.setIfInBounds i true)) (BJ s.fr) s.hp) := by
  intro m listed i ii c s ih hc hi hii hcov h
  obtain ⟨_, oi, hoi, _⟩ := mem_ready.1 hi
  obtain ⟨ii', hii', hlo⟩ := EK hl i oi (by simpa using hoi)
  rw [hii] at hii'
  cases hii'
  have hcl := Le hc hi
  have h1 := ZW h
  refine ⟨oi, hoi, hlo, fun hq => ?_, fun hq => ?_⟩
  ·obtain ⟨x, hy, hk⟩ := Mv (E := E) hlo hq h1
   refine ⟨x, hy, ?_⟩
   have := ih c _ hcl hcov hk
   rw [KB] at this
   have e : (s.put oi.dst x s.hp).hp = s.hp := by cases oi.dst <;> rfl
   rw [e] at this
   exact this
  ·refine KY (fun F hp ⟨s', e1, e2, hk⟩ => ?_) (Mt hlo hq h1)
   subst e1 e2
   exact ih c s' hcl hcov hk
 intro n
 induction n with
 | zero =>
  intro listed ic s hc ht h
  simp only [M5] at ht
  split at ht
  ·rename_i hr
   cases ht
   exact ⟨List.isEmpty_iff.1 hr, s, rfl, rfl, h⟩
  ·cases ht
 | succ m ih =>
  intro listed ic s hc ht h
  simp only [M5] at ht
  split at ht
  ·rename_i hr
   cases ht
   have hr' := List.isEmpty_iff.1 hr
   exact ⟨fun _ => ⟨s, rfl, rfl, h⟩, fun j hj => by rw [hr'] at hj; cases hj⟩
  ·rename_i hr
   split at ht
   ·rename_i i hf
    have hi : i ∈ Region.ready .any ops listed := List.mem_of_find?_eq_some hf
    have hfr := List.find?_some hf
    simp only [Option.bind_eq_some_iff, Option.map_eq_some_iff] at ht
    obtain ⟨ii, hii, c, hcov, rfl⟩ := ht
    obtain ⟨oi, hoi, hlo, h1, h2⟩ := step (fun ic s => ih _ ic s) hc hi hii hcov h
    have Gi := Pg hoi hii hfr
    cases hq : ii.op.quiet with
    | true =>
     obtain ⟨x, hy, hk⟩ := h1 hq
     exact PD hD hoi hii hq m listed _ _ hc Gi hi hy hk
    | false =>
     refine PC hD hoi hii hq hc (fun j o hj => ?_) Gi hi (h2 hq)
     obtain ⟨io, h1, _⟩ := EK hl j o (by simpa using hj)
     exact ⟨io, h1⟩
   ·simp only [Option.map_eq_some_iff] at ht
    obtain ⟨l, hall, rfl⟩ := ht
    refine ⟨fun e => absurd (List.isEmpty_iff.2 e) hr, fun i hi => ?_⟩
    obtain ⟨c', hc', h1⟩ := Oy hall i hi
    simp only [Option.bind_eq_some_iff, Option.map_eq_some_iff] at h1
    obtain ⟨ii, hii, c, hcov, rfl⟩ := h1
    obtain ⟨oi, hoi, hlo, h2, h3⟩ := step (fun ic s => ih _ ic s) hc hi hii hcov (Rv hc' h)
    refine ⟨ii, oi, hii, hoi, ?_⟩
    cases hq : ii.op.quiet with
    | true =>
     obtain ⟨x, hy, hk⟩ := h2 hq
     unfold G1
     rw [if_pos hq]
     exact ⟨x, hy.1, hk⟩
    | false => exact h3 hq
def LP (P : Program) (nt : Nat) (own : List (Nat × Nat)) (ops : Array Oper) : Option BV :=
 match Dv P nt own ops ops.toList with
 | some il => if HY ops (Ld ops) then M5 ops il (Ld ops) ops.size (Array.replicate ops.size false) else none
 | none => none

theorem WI.drawn {S : Nat → Prop} {w : World} {μ : Mu} {hp : Hp} (h : WI E S w μ hp) : WI E S { w with drawn := w.drawn + 1 } μ hp :=
 h.step rfl rfl rfl (Nat.le_refl _) (fun _ _ => rfl) (fun _ h => h) (fun _ h => .inl h)

theorem U1 {own : List (Nat × Nat)} {ops : Array Oper} {il : List B9} (hm : P.follows .mixedOrders = true) (hl : Dv P nt own ops ops.toList = some il) (hD : HY ops (Ld ops) = true) (σ : List Nat) (ho : K2 ops il (Ld ops) σ (Array.replicate ops.size false) = true) (hlen : σ.length = ops.size) : W5 P nt ops (σ.filterMap (il[·]?)) := by
 intro E Q id s a w hs hr
 refine wp_region_any hm ?_
 have h1 := Li (E := E) hD hl σ (Array.replicate ops.size false) s (fun j o hj hl' => by
  have : j < ops.size := (Array.getElem?_eq_some_iff.1 hj).1
  simp [this] at hl') ho hs
 rw [hlen] at h1
 refine IP hl (Q' := P9 E nt Q) (fun F hp a' w' hx hr' => ?_) ops.size _ _ _ a _ h1 ?_
 ·obtain ⟨s', e1, e2, hq⟩ := hx
  subst e1 e2
  exact ⟨s', hq, hr'⟩
 ·obtain ⟨hd, hn, S, μ, hw, hf⟩ := hr
  exact ⟨hd, hn, S, μ, hw.drawn, fun t => (hf t).mono (fun _ h => h) (fun b hb => rfl) (Mu.le.refl _)⟩
theorem YF {own : List (Nat × Nat)} {ops : Array Oper} {jl : List B9} (hm : P.follows .mixedOrders = true) (h : So P nt own ops = some jl) : W5 P nt ops jl := by
 unfold So at h
 split at h
 ·rename_i il hl
  split at h
  ·rename_i hD
   split at h
   ·rename_i ho
    cases h
    exact U1 hm hl hD _ ho (by simp)
   ·split at h
    ·rename_i hc
     cases h
     exact U1 hm hl hD _ hc.1 hc.2
    ·cases h
  ·cases h
 ·cases h

theorem U0 {own : List (Nat × Nat)} {ops : Array Oper} {ic : BV} (hm : P.follows .mixedOrders = true) (h : LP P nt own ops = some ic) : Y2 P nt ops ic := by
 unfold LP at h
 split at h
 ·rename_i il hl
  split at h
  ·rename_i hD
   intro E Q id s a w hs hr
   refine wp_region_any hm ?_
   have h1 := ZZ (E := E) hD hl ops.size (Array.replicate ops.size false) ic s (fun j o hj hl' => by
    have : j < ops.size := (Array.getElem?_eq_some_iff.1 hj).1
    simp [this] at hl') h hs
   refine IP hl (Q' := P9 E nt Q) (fun F hp a' w' hx hr' => ?_) ops.size _ _ _ a _ h1 ?_
   ·obtain ⟨s', e1, e2, hq⟩ := hx
    subst e1 e2
    exact ⟨s', hq, hr'⟩
   ·obtain ⟨hd, hn, S, μ, hw, hf⟩ := hr
    exact ⟨hd, hn, S, μ, hw.drawn, fun t => (hf t).mono (fun _ h => h) (fun b hb => rfl) (Mu.le.refl _)⟩
  ·cases h
 ·cases h

/-! ### A function's abstract code, by the kernel -/
def G5 (P : Program) (nt : Nat) (own : List (Nat × Nat)) (gs : List Nat) : Code → Option BV
 | .skip => some .skip
 | .label _ => some .skip
 | .ret => some (if gs.contains 9999 then .Ev else .ret)
 | .exit id => some (.exit id)
 | .seq a b => match G5 P nt own gs a, G5 P nt own gs b with
   | some a, some b => some (.seq a b)
   | _, _ => none
 | .cond c a b => match AB c, G5 P nt own gs a, G5 P nt own gs b with
   | some c, some a, some b => some (.cond c a b)
   | _, _, _ => none
 | .block id a => (G5 P nt own gs a).map (.block id)
 | .loop a => (G5 P nt own gs a).map .loop
 | .scope a => (G5 P nt own gs a).map .scope
 | .region id ops true => match So P nt own ops with
   | some il => some (if gs.contains id then .ghost (.draw il) else .draw il)
   | none => match LP P nt own ops with
     | some ic => some (if gs.contains id then .ghost ic else ic)
     | none => none
 | .region id ops false => match Dv P nt own ops ops.toList with
   | some il => some (if gs.contains id then .ghost (.region il) else .region il)
   | none => none
 | _ => none
theorem GL {own : List (Nat × Nat)} {gs : List Nat} (hm : P.follows .mixedOrders = true) : ∀ {c : Code} {ic : BV}, G5 P nt own gs c = some ic → Low P nt own c ic
 | .skip, ic, h => by simp only [G5] at h; cases h; exact .skip
 | .label l, ic, h => by simp only [G5] at h; cases h; exact .label l
 | .ret, ic, h => by
  simp only [G5, Option.some.injEq] at h
  subst h
  split
  ·exact .Ev
  ·exact .ret
 | .exit id, ic, h => by simp only [G5] at h; cases h; exact .exit id
 | .seq a b, ic, h => by
  simp only [G5] at h
  split at h
  ·rename_i x y h1 h2; cases h; exact .seq (GL hm h1) (GL hm h2)
  ·cases h
 | .cond c a b, ic, h => by
  simp only [G5] at h
  split at h
  ·rename_i x y z h0 h1 h2; cases h; exact .cond h0 (GL hm h1) (GL hm h2)
  ·cases h
 | .block id a, ic, h => by
  simp only [G5, Option.map_eq_some_iff] at h
  obtain ⟨x, h1, rfl⟩ := h
  exact .block id (GL hm h1)
 | .loop a, ic, h => by
  simp only [G5, Option.map_eq_some_iff] at h
  obtain ⟨x, h1, rfl⟩ := h
  exact .loop (GL hm h1)
 | .scope a, ic, h => by
  simp only [G5, Option.map_eq_some_iff] at h
  obtain ⟨x, h1, rfl⟩ := h
  exact .scope (GL hm h1)
 | .region id ops false, ic, h => by
  simp only [G5] at h
  split at h
  ·rename_i il h1
   cases h
   split
   ·exact .ghost (.region id ops il h1)
   ·exact .region id ops il h1
  ·cases h
 | .region id ops true, ic, h => by
  simp only [G5] at h
  split at h
  ·rename_i il h1
   cases h
   split
   ·exact .ghost (.draw id ops il (YF hm h1))
   ·exact .draw id ops il (YF hm h1)
  ·split at h
   ·rename_i ic' h1
    cases h
    split
    ·exact .ghost (.Abx id ops ic' (U0 hm h1))
    ·exact .Abx id ops ic' (U0 hm h1)
   ·cases h
 | .rangeFunc .., ic, h => by simp only [G5] at h; cases h
 | .goto l, ic, h => by simp only [G5] at h; cases h
 | .refuse w, ic, h => by simp only [G5] at h; cases h

def Wr (P : Program) (own : List (Nat × Nat)) (gs : List Nat) (n : Nat) (fn : Func) : Option (BV × List GU) :=
 match fn.body with
 | some c => match G5 P fn.ntmps own gs c, I2 P fn.results.toList with
   | some ic, some rs => if n ≤ fn.ntmps then some (ic, rs) else none
   | _, _ => none
 | none => none
theorem AdN {own : List (Nat × Nat)} {gs : List Nat} {f : FuncId} {fn : Func} {ic : BV} {rs : List GU} {args : List AV} {res : AV} (hm : P.follows .mixedOrders = true) (hf : P.funcs[f]? = some fn) (hcall : Dy P f = true) (hl : Wr P own gs args.length fn = some (ic, rs))
  (hcl : ∀ x ∈ args, Ac x) (hcr : Ac res) (h : awp P ic (Ret rs res) ⟨entry 0 args, []⟩) : Ap P f args res := by
 unfold Wr at hl
 split at hl
 ·rename_i c hb
  split at hl
  ·rename_i ic' rs' h1 h2
   split at hl
   ·rename_i hlen
    cases hl
    exact ZU hf hb hcall (GL hm h1) h2 hlen hcl hcr h
   ·cases hl
  ·cases hl
 ·cases hl
theorem AdM {own : List (Nat × Nat)} {gs : List Nat} {f : FuncId} {fn : Func} {ic : BV} {rs : List GU} {args : List AV} {hp : Hp} {Post : AV → Hp → Prop} (hm : P.follows .mixedOrders = true) (hf : P.funcs[f]? = some fn) (hcall : Dy P f = true) (hl : Wr P own gs args.length fn = some (ic, rs))
  (h : awp P ic (AbX rs Post) ⟨entry 0 args, hp⟩) : Ay P f args hp Post := by
 unfold Wr at hl
 split at hl
 ·rename_i c hb
  split at hl
  ·rename_i ic' rs' h1 h2
   split at hl
   ·rename_i hlen
    cases hl
    exact ZT hf hb hcall (GL hm h1) h2 hlen h
   ·cases hl
  ·cases hl
 ·cases hl
def thin (T : Tables) : Program := { toTables := T, funcs := Array.replicate 400 { (default : Func) with body := some .skip } }
def Km (P : Program) (nt : Nat) (own : List (Nat × Nat)) (gs : List Nat) (s : List Nat) : Code → Option BV
 | .skip => some .skip
 | .label _ => some .skip
 | .ret => some (if gs.contains 9999 then .Ev else .ret)
 | .exit id => some (.exit id)
 | .seq a b => match Km P nt own gs s a, Km P nt own gs s b with
   | some a, some b => some (.seq a b)
   | _, _ => none
 | .cond c a b => match AB c, Km P nt own gs s a, Km P nt own gs s b with
   | some c, some a, some b => some (.cond c a b)
   | _, _, _ => none
 | .block id a => (Km P nt own gs s a).map (.block id)
 | .loop a => (Km P nt own gs s a).map .loop
 | .scope a => (Km P nt own gs s a).map .scope
 | .region id ops true => if s.contains (id + 10000) then (LP P nt own ops).map fun ic => if gs.contains id then .ghost ic else ic
   else (Dv P nt own ops ops.toList).map fun il => if gs.contains id then .ghost (.draw (if s.contains id then (IM il).filterMap (il[·]?) else il)) else .draw (if s.contains id then (IM il).filterMap (il[·]?) else il)
 | .region id ops false => (Dv P nt own ops ops.toList).map fun il => if gs.contains id then .ghost (.region il) else .region il
 | _ => none
def AdI (P : Program) (own : List (Nat × Nat)) (gs s : List Nat) (fn : Func) : Option (BV × List GU) :=
 match fn.body with
 | some c => match Km P fn.ntmps own gs s c, I2 P fn.results.toList with
   | some ic, some rs => some (ic, rs)
   | _, _ => none
 | none => none
theorem Ag {P : Program} {own : List (Nat × Nat)} {gs : List Nat} {n : Nat} {fn : Func} {x : BV × List GU} (s : List Nat) (T : Tables) (_ : AdI (thin T) own gs s fn = some x) (h : Wr P own gs n fn = some x) : Wr P own gs n fn = some x := h
abbrev Ir (P : Program) (k : FuncId) (own : List (Nat × Nat)) (gs : List Nat) (n : Nat) := {x : BV × List GU // ∃ fn, P.funcs[k]? = some fn ∧ P.follows .mixedOrders = true ∧ Dy P k = true ∧ Wr P own gs n fn = some x}
theorem Ir.F {P : Program} {k : FuncId} {own : List (Nat × Nat)} {gs : List Nat} {n : Nat} (x : Ir P k own gs n) {args : List AV} {res : AV} (hn : args.length = n) (h1 : ∀ x ∈ args, Ac x) (h2 : Ac res) (h : awp P x.1.1 (Ret x.1.2 res) ⟨entry 0 args, []⟩) : Ap P k args res := by
 obtain ⟨_, fn, hf, hm, hc, hl⟩ := x
 exact AdN hm hf hc (by rw [hn]; exact hl) h1 h2 h
theorem Ir.H {P : Program} {k : FuncId} {own : List (Nat × Nat)} {gs : List Nat} {n : Nat} (x : Ir P k own gs n) {args : List AV} {hp : Hp} {Post : AV → Hp → Prop} (hn : args.length = n) (h : awp P x.1.1 (AbX x.1.2 Post) ⟨entry 0 args, hp⟩) : Ay P k args hp Post := by
 obtain ⟨_, fn, hf, hm, hc, hl⟩ := x
 exact AdM hm hf hc (by rw [hn]; exact hl) h
end

end Go.Proofs.YtjbcnilllfaipaaGreat.Av
