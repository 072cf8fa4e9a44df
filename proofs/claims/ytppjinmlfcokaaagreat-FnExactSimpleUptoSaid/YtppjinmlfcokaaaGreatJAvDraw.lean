/-
 FUNCTIONS, and regions that draw their order. Conditions: none.
-/
import Derived.Test.YtppjinmlfcokaaaGreatJAvC
import Derived.Orders
import Derived.Still
set_option linter.unusedVariables false
set_option linter.unusedSimpArgs false

namespace Go.Proofs.YtppjinmlfcokaaaGreat.Av
open Go.RowKit

inductive Gb where
 | t (i : Nat)
 | c (agg : Bool) (n i : Nat)
def AcT (P : Program) : ResultVar → Option Gb
 | .tmp i => some (.t i)
 | .cell i ty => match Mr P ty, BV P ty with
   | some g, some n => some (.c g n i)
   | _, _ => none
def JH (P : Program) : List ResultVar → Option (List Gb)
 | [] => some []
 | r :: rs => match AcT P r, JH P rs with
   | some x, some xs => some (x :: xs)
   | _, _ => none
def AfJ (hp : Hp) (fr : Nat → AV) (r : Gb) (K : AV → Prop) : Prop :=
 match r with
 | .t i => K (fr i)
 | .c g n i => F8 hp g n (fr i) K
def Ce (hp : Hp) (fr : Nat → AV) : List Gb → (List AV → Prop) → Prop
 | [], K => K []
 | r :: rs, K => AfJ hp fr r fun x => Ce hp fr rs fun xs => K (x :: xs)
def Kt (hp : Hp) : List AV → AV
 | [x] => x.pur hp
 | xs => .tup (xs.map (AV.pur hp))
def entry : Nat → List AV → List (Nat × AV)
 | _, [] => []
 | i, x :: xs => (i, x) :: entry (i + 1) xs

def Ret (rs : List Gb) (res : AV) : Exit → St → Prop
 | .normal, s => Ce s.hp (Bv s.fr) rs fun xs => Kt s.hp xs = res
 | .ret, s => Ce s.hp (Bv s.fr) rs fun xs => Kt s.hp xs = res
 | _, _ => False

section
variable {E : Env}
def OR (s : List (Nat × AV)) : List (Nat × AV) → Prop
 | [] => True
 | (i, x) :: r => Bv s i = x ∧ OR s r
def Ax (s : Hp) : Hp → Prop
 | [] => True
 | (k, b) :: r => An s k = some b ∧ Ax s r
theorem We {s : List (Nat × AV)} : ∀ {t : List (Nat × AV)}, OR s t → ∀ i, Bv t i = .top ∨ Bv t i = Bv s i
 | [], _, i => .inl rfl
 | (j, x) :: r, h, i => by
  simp only [Bv]
  split
  ·rename_i e; subst e; exact .inr h.1.symm
  ·exact We h.2 i
theorem Ng {s : Hp} : ∀ {t : Hp}, Ax s t → ∀ k b, An t k = some b → An s k = some b
 | [], _, k, b, h => by cases h
 | (j, x) :: r, h, k, b, hk => by
  simp only [An] at hk
  split at hk
  ·rename_i e; subst e; cases hk; exact h.1
  ·exact Ng h.2 k b hk
theorem WI.drop {S : Nat → Prop} {w : World} {μ : Mu} {hp hp' : Hp} (h : WI E S w μ hp) (hh : ∀ k b, An hp' k = some b → An hp k = some b) : WI E S w μ hp' :=
 ⟨h.ext, h.lt, h.base, h.new, h.fresh, fun k bx hk => h.box k bx (hh k bx hk), fun k k' bx bx' B B' b hk hk' => h.apart k k' bx bx' B B' b (hh _ _ hk) (hh _ _ hk'), h.le⟩
end
def AdH (rs : List Gb) (Post : AV → Hp → Prop) : Exit → St → Prop
 | .normal, s => Af s fun t => Ce t.hp (Bv t.fr) rs fun xs => ∃ hp', Ax t.hp hp' ∧ Post (Kt t.hp xs) hp'
 | .ret, s => Af s fun t => Ce t.hp (Bv t.fr) rs fun xs => ∃ hp', Ax t.hp hp' ∧ Post (Kt t.hp xs) hp'
 | _, _ => False

theorem NT : ∀ (xs : List AV) (k i : Nat) (x : AV), Bv (entry k xs) i = x → x = .top ∨ (k ≤ i ∧ xs[i - k]? = some x)
 | [], k, i, x, h => .inl h.symm
 | y :: ys, k, i, x, h => by
  simp only [entry, Bv] at h
  split at h
  ·rename_i hk; subst hk; right; simp [h]
  ·rename_i hk
   rcases NT ys (k + 1) i x h with h | ⟨h1, h2⟩
   ·exact .inl h
   ·right; exact ⟨by omega, by rw [show i - k = (i - (k + 1)) + 1 by omega]; simpa using h2⟩

theorem AcV {P : Program} {E : Env} {S : Nat → Prop} {w : World} {μ : Mu} {hp : Hp} {t : TypeId} {g : Bool} {n : Nat} {x : AV} {v : Value} {K : AV → Prop} (hg : Mr P t = some g) (hn : BV P t = some n) (hw : WI E S w μ hp) (hv : VR S w μ v x) (h : F8 hp g n x K) :
  ∃ b p u y, v = .pointer (some ⟨b, p, none⟩) ∧ (loadVar t ⟨b, p, none⟩).run P w = .ok u w ∧ VR S w μ u y ∧ K y := by
 have fin : ∀ (cs : List AV) (off : Nat), Gi g cs off n K → (∃ b p, v = .pointer (some ⟨b, p, none⟩) ∧ Dx S w μ b p (cs.drop off)) → ∃ b p u y, v = .pointer (some ⟨b, p, none⟩) ∧ (loadVar t ⟨b, p, none⟩).run P w = .ok u w ∧ VR S w μ u y ∧ K y := by
  rintro cs off hk ⟨b, p, h1, h2⟩
  unfold Gi at hk
  cases g with
  | true =>
   obtain ⟨u, h3, h4⟩ := (FP (P := P) hg hn h2).1 rfl (by simp; omega)
   exact ⟨b, p, u, _, h1, h3, h4, hk.2⟩
  | false =>
   obtain ⟨u, h3, h4⟩ := (FP (P := P) hg hn h2).2 rfl (cs.getD off .top) (by rw [Fl hk.1]; simp [hk.1])
   exact ⟨b, p, u, _, h1, h3, h4, hk.2⟩
 unfold F8 at h
 split at h
 ·obtain ⟨b, p, hb⟩ := hv.MO
  rw [hb] at hv
  exact fin _ 0 h ⟨b, p, hb, by simpa using hv.T2.1⟩
 ·rename_i k ver i off
  split at h
  ·rename_i bx hk
   obtain ⟨⟨hver, hi⟩, h⟩ := h
   refine fin _ off h ?_
   cases hv with
   | ptr _ _ _ _ b cap esz hμ =>
    obtain ⟨B, hB, hz, hh⟩ := hw.box k bx hk
    rw [hver, hμ] at hB
    cases hB
    obtain ⟨a1, a2, a3, cur, a4, a5, a6, a7, a8⟩ := hh
    refine ⟨b, i * esz + off, rfl, ?_⟩
    rw [Fl hi]
    exact (a8.atR a4 hi).drop off
  ·exact h.elim
 ·exact h.elim

section
variable {P : Program} {E : Env}

theorem Kx {S : Nat → Prop} {w : World} {μ : Mu} {hp : Hp} {tmps : Array Value} {fr : Nat → AV} (hw : WI E S w μ hp) (hf : ∀ t, VR S w μ (tmps.getD t Go.undef) (fr t)) : ∀ {l : List ResultVar} {rs : List Gb} {K : List AV → Prop}, JH P l = some rs → Ce hp fr rs K →
  ∃ vs xs, (l.mapM (fun | .tmp t => pure (tmps.getD t Go.undef) | .cell a t => do loadVar t (← asAddr (tmps.getD a Go.undef)) : ResultVar → Sem Value)).run P w = .ok vs w ∧ VRs S w μ vs xs ∧ K xs
 | [], rs, K, hl, h => by cases hl; exact ⟨[], [], rfl, VRs.nil, h⟩
 | r :: l, rs, K, hl, h => by
  unfold JH at hl
  split at hl
  ·rename_i ir irs h1 h2
   cases hl
   unfold Ce at h
   have step : ∃ v x, ((fun | .tmp t => pure (tmps.getD t Go.undef) | .cell a t => do loadVar t (← asAddr (tmps.getD a Go.undef)) : ResultVar → Sem Value) r).run P w = .ok v w ∧ VR S w μ v x ∧ Ce hp fr irs fun xs => K (x :: xs) := by
    unfold AcT at h1
    split at h1
    ·rename_i i
     cases h1
     exact ⟨_, _, rfl, hf i, h⟩
    ·rename_i i ty
     split at h1
     ·rename_i g n hg hn
      cases h1
      obtain ⟨b, p, u, y, e1, e2, e3, e4⟩ := AcV (P := P) hg hn hw (hf i) h
      exact ⟨u, y, by simp only [e1, asAddr, Sem.run_bind, Sem.run_pure, Result.andThen_ok]; exact e2, e3, e4⟩
     ·cases h1
   obtain ⟨v, x, hr, hv, h⟩ := step
   obtain ⟨vs, xs, hrs, hvs, hK⟩ := Kx hw hf h2 h
   refine ⟨v :: vs, x :: xs, ?_, VRs.cons hv hvs, hK⟩
   rw [List.mapM_cons]
   simp only [Sem.run_bind, hr, Result.andThen_ok, hrs, Sem.run_pure]
  ·cases hl

theorem AbF {own : List (Nat × Nat)} {f : FuncId} {fn : Func} {c : Code} {ic : BU} {rs : List Gb} {args : List AV} {res : AV} (hf : P.funcs[f]? = some fn) (hb : fn.body = some c) (hcall : DJ P f = true) (hlow : Low P fn.ntmps own c ic)
  (hres : JH P fn.results.toList = some rs) (hlen : args.length ≤ fn.ntmps) (hcl : ∀ x ∈ args, Ae x) (hcr : Ae res) (h : awp P ic (Ret rs res) ⟨entry 0 args, []⟩) : Ak P f args res := by
 refine ⟨hcall, hcl, fun S w vs hS hv => ?_⟩
 have hvl : vs.length = args.length := hv.1
 let E : Env := ⟨w, S, fun _ => False, mu0⟩
 have hW : WI E S w mu0 [] := ⟨⟨rfl, rfl, rfl, Nat.le_refl _, fun _ _ _ => rfl⟩, hS, fun _ h => h, fun _ h => .inl h, ⟨1, Nat.zero_lt_one, fun _ _ _ => rfl, fun _ _ h => by cases h⟩, fun k bx h => (by cases h), fun k k' bx bx' B B' b h => (by cases h), Mu.le.refl _⟩
 have hR : Rep E fn.ntmps ⟨entry 0 args, []⟩ { tmps := vs.toArray ++ Array.replicate (fn.ntmps - vs.toArray.size) Go.undef, defers := [] } w := by
  refine ⟨rfl, by simp; omega, S, mu0, hW, fun t => ?_⟩
  show VR S w mu0 _ (Bv (entry 0 args) t)
  generalize hx : Bv (entry 0 args) t = x
  rcases NT args 0 t x hx with h | ⟨_, h⟩
  ·subst h; exact .top _
  ·simp only [Nat.sub_zero] at h
   have ht : t < vs.length := by rw [hvl]; exact (List.getElem?_eq_some_iff.1 h).1
   refine hv.2 t _ x ?_ h
   simp only [Array.getD_eq_getD_getElem?]
   rw [Array.getElem?_append_left (by simpa using ht)]
   simp [ht]
 have key := SO hlow h hR
 refine calls_of_wp hf hb (wp_mono key fun e a' w' ⟨s, hq, hr⟩ => ?_)
 have fin : Ce s.hp (Bv s.fr) rs (fun xs => Kt s.hp xs = res) → a'.defers = [] ∧ ∃ v, (results fn a'.tmps).run P w' = .ok v w' ∧ ∃ v', Ending.returned v = Ending.returned v' ∧ VR (fun b => S b ∨ (w.heap.size ≤ b ∧ b < w'.heap.size)) w' mu0 v' res ∧ Below w.heap.size w w' := by
  intro hq
  obtain ⟨hd, hn, S', μ', hw', hf'⟩ := hr
  obtain ⟨us, xs, h1, h2, h3⟩ := Kx (P := P) hw' hf' hres hq
  have hrun : (results fn a'.tmps).run P w' = .ok (if h : us.toArray.size = 1 then us.toArray[0] else .tuple us.toArray) w' := by
   have : fn.results = fn.results.toList.toArray := by simp
   unfold results
   rw [this, List.mapM_toArray, map_eq_pure_bind]
   simp only [Sem.run_bind]
   refine (congrArg (fun r => (Result.andThen r _).andThen _) h1).trans ?_
   simp only [Result.andThen_ok, Sem.run_pure]
  refine ⟨hd, _, hrun, _, rfl, ?_, ⟨hw'.ext.os, hw'.ext.tape, hw'.ext.output, hw'.ext.size, fun b hb => hw'.ext.block b hb (fun h => h)⟩⟩
  have hvr : VR S' w' μ' (if h : us.toArray.size = 1 then us.toArray[0] else .tuple us.toArray) res := by
   rw [← h3]
   by_cases h4 : us.length = 1
   ·obtain ⟨u, rfl⟩ := List.length_eq_one_iff.1 h4
    obtain ⟨x, rfl⟩ := List.length_eq_one_iff.1 (h2.1 ▸ h4)
    rw [dif_pos (by rfl)]
    exact (h2.2 0 u x rfl rfl).pur hw'
   ·have hx : Kt s.hp xs = .tup (xs.map (AV.pur s.hp)) := by
     unfold Kt
     split
     ·rename_i x; exact absurd h2.1 (by simpa using h4)
     ·rfl
    rw [dif_neg (by simpa using h4), hx]
    refine .tup _ _ (by simpa using h2.1) (fun i v x p q => ?_)
    simp only [List.getElem?_map, Option.map_eq_some_iff] at q
    obtain ⟨y, hy, rfl⟩ := q
    exact (h2.2 i v y (by simpa using p) hy).pur hw'
  refine (hcr _ _ _ _ hvr).mono (fun b hb => ?_) (BZ.refl _ _) (Mu.le.refl _)
  rcases hw'.new b hb with h | h | h
  ·exact .inl h
  ·exact .inr ⟨h, hw'.lt b hb⟩
  ·exact h.elim
 cases e <;> first | exact fin hq | exact hq.elim

theorem AbE {own : List (Nat × Nat)} {f : FuncId} {fn : Func} {c : Code} {ic : BU} {rs : List Gb} {args : List AV} {hp : Hp} {Post : AV → Hp → Prop} (hf : P.funcs[f]? = some fn) (hb : fn.body = some c) (hcall : DJ P f = true) (hlow : Low P fn.ntmps own c ic)
  (hres : JH P fn.results.toList = some rs) (hlen : args.length ≤ fn.ntmps) (h : awp P ic (AdH rs Post) ⟨entry 0 args, hp⟩) : AU P f args hp Post := by
 refine ⟨hcall, fun S w μ vs hW hv => ?_⟩
 have hvl : vs.length = args.length := hv.1
 have hR : Rep ⟨w, S, GY μ hp, μ⟩ fn.ntmps ⟨entry 0 args, hp⟩ { tmps := vs.toArray ++ Array.replicate (fn.ntmps - vs.toArray.size) Go.undef, defers := [] } w := by
  refine ⟨rfl, by simp; omega, S, μ, hW, fun t => ?_⟩
  show VR S w μ _ (Bv (entry 0 args) t)
  generalize hx : Bv (entry 0 args) t = x
  rcases NT args 0 t x hx with h | ⟨_, h⟩
  ·subst h; exact .top _
  ·simp only [Nat.sub_zero] at h
   have ht : t < vs.length := by rw [hvl]; exact (List.getElem?_eq_some_iff.1 h).1
   refine hv.2 t _ x ?_ h
   simp only [Array.getD_eq_getD_getElem?]
   rw [Array.getElem?_append_left (by simpa using ht)]
   simp [ht]
 have key := SO hlow h hR
 refine calls_of_wp hf hb (wp_mono key fun e a' w' ⟨s, hq, hr⟩ => ?_)
 have fin : (Af s fun t => Ce t.hp (Bv t.fr) rs fun xs => ∃ hp', Ax t.hp hp' ∧ Post (Kt t.hp xs) hp') → a'.defers = [] ∧ ∃ v, (results fn a'.tmps).run P w' = .ok v w' ∧ ∃ v' r hp' S' μ', Ending.returned v = Ending.returned v' ∧ Post r hp' ∧ VR S' w' μ' v' r ∧ WI ⟨w, S, GY μ hp, μ⟩ S' w' μ' hp' := by
  intro hq
  obtain ⟨t, hq, hr⟩ := hq.run _ _ _ _ hr
  obtain ⟨hd, hn, S', μ', hw', hf'⟩ := hr
  obtain ⟨us, xs, h1, h2, hp', h3, h4⟩ := Kx (P := P) hw' hf' hres hq
  have hrun : (results fn a'.tmps).run P w' = .ok (if h : us.toArray.size = 1 then us.toArray[0] else .tuple us.toArray) w' := by
   have : fn.results = fn.results.toList.toArray := by simp
   unfold results
   rw [this, List.mapM_toArray, map_eq_pure_bind]
   simp only [Sem.run_bind]
   refine (congrArg (fun r => (Result.andThen r _).andThen _) h1).trans ?_
   simp only [Result.andThen_ok, Sem.run_pure]
  refine ⟨hd, _, hrun, _, _, hp', S', μ', rfl, h4, ?_, hw'.drop (Ng h3)⟩
  by_cases h9 : us.length = 1
  ·obtain ⟨u, rfl⟩ := List.length_eq_one_iff.1 h9
   obtain ⟨x, rfl⟩ := List.length_eq_one_iff.1 (h2.1 ▸ h9)
   rw [dif_pos (by rfl)]
   exact (h2.2 0 u x rfl rfl).pur hw'
  ·have hx : Kt t.hp xs = .tup (xs.map (AV.pur t.hp)) := by
    unfold Kt
    split
    ·rename_i x; exact absurd h2.1 (by simpa using h9)
    ·rfl
   rw [dif_neg (by simpa using h9), hx]
   refine .tup _ _ (by simpa using h2.1) (fun i v x p q => ?_)
   simp only [List.getElem?_map, Option.map_eq_some_iff] at q
   obtain ⟨y, hy, rfl⟩ := q
   exact (h2.2 i v y (by simpa using p) hy).pur hw'
 cases e <;> first | exact fin hq | exact hq.elim

theorem WJ {f : FuncId} {args : List AV} {res : AV} {Post : AV → Hp → Prop} (h : AU P f args [] Post) (h1 : ∀ x ∈ args, Ae x) (h2 : Ae res) (hp : ∀ r hp', Post r hp' → r = res ∨ (r = .Aj ∧ res = .sl [])) : Ak P f args res := by
 obtain ⟨hc, h⟩ := h
 refine ⟨hc, h1, fun S w vs hS hv => ?_⟩
 have hW : WI ⟨w, S, GY mu0 [], mu0⟩ S w mu0 [] := ⟨⟨rfl, rfl, rfl, Nat.le_refl _, fun _ _ _ => rfl⟩, hS, fun _ h => h, fun _ h => .inl h, ⟨1, Nat.zero_lt_one, fun _ _ _ => rfl, fun _ _ h => by cases h⟩, fun k bx h => (by cases h), fun k k' bx bx' B B' b h => (by cases h), Mu.le.refl _⟩
 have hno : ∀ b, ¬ GY mu0 [] b := by rintro b ⟨k, bx, B, h, _⟩; cases h
 refine (h S w mu0 vs hW hv).mono fun e w' ⟨v, r, hp', S', μ', he, hpost, hvr, hw'⟩ => ⟨v, he, ?_, ⟨hw'.ext.os, hw'.ext.tape, hw'.ext.output, hw'.ext.size, fun b hb => hw'.ext.block b hb (hno b)⟩⟩
 have hsub : ∀ b, S' b → S b ∨ (w.heap.size ≤ b ∧ b < w'.heap.size) := fun b hb => by
  rcases hw'.new b hb with h | h | h
  ·exact .inl h
  ·exact .inr ⟨h, hw'.lt b hb⟩
  ·exact (hno b h).elim
 rcases hp r hp' hpost with e | ⟨e, e'⟩
 ·subst e
  exact (h2 _ _ _ _ hvr).mono hsub (BZ.refl _ _) (Mu.le.refl _)
 ·subst e e'
  cases hvr
  exact .sl0 none 0 (Nat.zero_le _)

/-! ### Ghost steps -/
theorem Af.le {s t : St} {T : St → Prop} (hT : T t) (h1 : OR s.fr t.fr) (h2 : Ax s.hp t.hp) : Af s T := by
 refine ⟨?_⟩
 rintro E nt a w ⟨hd, hn, S, μ, hw, hf⟩
 refine ⟨t, hT, hd, hn, S, μ, hw.drop (Ng h2), fun i => ?_⟩
 rcases We h1 i with h | h
 ·rw [h]; exact .top _
 ·rw [h]; exact hf i

theorem Af.frz {s : St} {T : St → Prop} (k : Nat) (h : Af ⟨s.fr, Gt s.hp k⟩ T) : Af s T := by
 refine ⟨?_⟩
 rintro E nt a w ⟨hd, hn, S, μ, hw, hf⟩
 cases hk : An s.hp k with
 | none =>
  refine h.run E nt a w ⟨hd, hn, S, μ, ?_, hf⟩
  unfold Gt; rw [hk]; exact hw
 | some bx =>
  obtain ⟨S', h1, h2⟩ := hw.frz hk
  exact h.run E nt a w ⟨hd, hn, S', μ, h1, fun t => (hf t).mono h2 (BZ.refl _ _) (Mu.le.refl _)⟩
theorem Af.pur {s : St} {T : St → Prop} (i : Nat) (h : Af ⟨(i, (Bv s.fr i).pur s.hp) :: s.fr, s.hp⟩ T) : Af s T := by
 refine ⟨?_⟩
 rintro E nt a w ⟨hd, hn, S, μ, hw, hf⟩
 refine h.run E nt a w ⟨hd, hn, S, μ, hw, fun t => ?_⟩
 simp only [Bv]
 split
 ·rename_i e; subst e; exact (hf i).pur hw
 ·exact hf t
theorem Af.FA {s : St} {T : St → Prop} (k0 i off k : Nat) (ty : TypeId) (esz : Nat) {b : Box} (hb : An s.hp k0 = some b) (hfz : b.frz = false) (hi : i < b.es.length) (hc : (b.es.getD i .top).cells[off]? = some .Aj) (hne : k ≠ k0)
  (h : ∀ v, Af ⟨s.fr, (k, ⟨v, false, ty, esz, []⟩) :: (k0, { b with es := b.es.set i ((b.es.getD i .top).Ht off [.row k v 0]) }) :: s.hp⟩ T) : Af s T := by
 refine ⟨?_⟩
 rintro E nt a w ⟨hd, hn, S, μ, hw, hf⟩
 obtain ⟨N, hN0, hN, _⟩ := hw.fresh
 have hle : Mu.le μ (μ.put k N ⟨none, 0, esz⟩) := Mu.NL (hN k N (Nat.le_refl _))
 let b' : Box := { b with es := b.es.set i ((b.es.getD i .top).Ht off [.row k N 0]) }
 have hget' : ∀ j, An ((k, (⟨N, false, ty, esz, []⟩ : Box)) :: (k0, b') :: s.hp) j = if k = j then some ⟨N, false, ty, esz, []⟩ else if k0 = j then some b' else An s.hp j := fun j => rfl
 have hold : ∀ j bj, An s.hp j = some bj → ∀ B', (μ.put k N ⟨none, 0, esz⟩) j bj.ver = some B' → μ j bj.ver = some B' := fun j bj hj B' hB' => by
  obtain ⟨B0, h0, _⟩ := hw.box j bj hj
  have := hle _ _ _ h0
  rw [this] at hB'; cases hB'; exact h0
 -- the box that j had before
 have hprev : ∀ j bj, j ≠ k → An ((k, (⟨N, false, ty, esz, []⟩ : Box)) :: (k0, b') :: s.hp) j = some bj → ∃ bo, An s.hp j = some bo ∧ bo.ver = bj.ver ∧ bo.frz = bj.frz := fun j bj hjk hj => by
  rw [hget', if_neg (fun e => hjk e.symm)] at hj
  by_cases h0 : k0 = j
  ·rw [if_pos h0] at hj; cases hj; subst h0; exact ⟨b, hb, rfl, rfl⟩
  ·rw [if_neg h0] at hj; exact ⟨bj, hj, rfl, rfl⟩
 refine (h N).run E nt a w ⟨hd, hn, S, μ.put k N ⟨none, 0, esz⟩, ⟨hw.ext, hw.lt, hw.base, hw.new, Mu.Hn hN0 hw.fresh, fun j bj hj => ?_, ?_, hw.le.trans hle⟩, fun t => (hf t).mono (fun _ h => h) (BZ.refl _ _) hle⟩
 ·rw [hget'] at hj
  by_cases hkj : k = j
  ·rw [if_pos hkj] at hj; cases hj; subst hkj
   exact ⟨_, Mu.BS _ _ _ _, rfl, rfl⟩
  ·rw [if_neg hkj] at hj
   by_cases h0 : k0 = j
   ·rw [if_pos h0] at hj; cases hj; subst h0
    obtain ⟨B0, h1, hz0, hh⟩ := hw.box k0 b hb
    refine ⟨B0, hle _ _ _ h1, hz0, ?_⟩
    cases hbl : B0.blk with
    | none => rw [hbl] at hh; simp only at hh; rw [hh] at hi; simp at hi
    | some g =>
     rw [hbl] at hh
     obtain ⟨a1, a2, a3, cu, a4, a5, a6, a7, a8⟩ := hh
     refine ⟨a1, a2, a3, cu, a4, a5, a6, by simp only [b', List.length_set]; exact a7, ?_⟩
     have he : b.es.getD i .top = b.es[i] := Fl hi _
     have hm := a8.1 b.es[i] (List.getElem_mem hi)
     have hok : b.es[i].ok = true := by
      by_cases hq : b.es[i].isAgg = true
      ·simp [AV.ok, hq]
      ·have : b.es[i].cells = [b.es[i]] := by cases hx : b.es[i] <;> first | rfl | (rw [hx] at hq; simp [AV.isAgg] at hq)
       simp [AV.ok, hm.2 b.es[i] (by rw [this]; simp)]
     rw [he] at hc
     have hoff : off < b.es[i].cells.length := (List.getElem?_eq_some_iff.1 hc).1
     have hsc := Po (e := b.es[i]) (off := off) (xs := [.row k N 0]) hok (by simp [AV.one]) (by simp; omega)
     refine ⟨fun e hmem => ?_, fun i' j' e x p q => ?_⟩
     ·simp only [b', he] at hmem
      rcases List.mem_or_eq_of_mem_set hmem with h3 | h3
      ·exact a8.1 e h3
      ·subst h3
       rw [hsc.1]
       exact ⟨by rw [TG _ _ _ (by simp; omega)]; exact hm.1, TF hm.2 (by simp [AV.one])⟩
     ·simp only [b', he, List.getElem?_set] at p
      by_cases hii : i = i'
      ·subst hii
       simp only [if_true, hi, Option.some.injEq] at p
       subst p
       rw [hsc.1, TH _ _ _ _ (by simp; omega)] at q
       by_cases hj : off ≤ j' ∧ j' < off + [AV.row k N 0].length
       ·obtain rfl : j' = off := by simp at hj; omega
        rw [if_pos hj] at q
        simp at q
        subst q
        obtain ⟨v, c1, c2⟩ := a8.2 i j' b.es[i] .Aj (List.getElem?_eq_getElem hi) hc
        refine ⟨v, c1, ?_⟩
        cases c2
        exact .Iz k N 0 esz (Mu.BS _ _ _ _)
       ·rw [if_neg hj] at q
        obtain ⟨v, c1, c2⟩ := a8.2 i j' b.es[i] x (List.getElem?_eq_getElem hi) q
        exact ⟨v, c1, c2.mono (fun _ h => h) (BZ.refl _ _) hle⟩
      ·rw [if_neg hii] at p
       obtain ⟨v, c1, c2⟩ := a8.2 i' j' e x p q
       exact ⟨v, c1, c2.mono (fun _ h => h) (BZ.refl _ _) hle⟩
   ·rw [if_neg h0] at hj
    obtain ⟨B0, h1, hz0, hh⟩ := hw.box j bj hj
    refine ⟨B0, hle _ _ _ h1, hz0, ?_⟩
    cases hbl : B0.blk with
    | none => rw [hbl] at hh; exact hh
    | some g =>
     rw [hbl] at hh
     obtain ⟨a1, a2, a3, cu, a4, a5, a6, a7, a8⟩ := hh
     exact ⟨a1, a2, a3, cu, a4, a5, a6, a7, a8.mono (fun _ h => h) (BZ.refl _ _) hle⟩
 ·intro j j' bj bj' Bj Bj' g hj hj' hjj hf1 hf2 hBj hBj' hbl
  by_cases hkj : j = k
  ·subst hkj
   rw [hget', if_pos rfl] at hj; cases hj
   rw [Mu.BS] at hBj; cases hBj; cases hbl
  ·by_cases hkj' : j' = k
   ·subst hkj'
    rw [hget', if_pos rfl] at hj'; cases hj'
    rw [Mu.BS] at hBj'; cases hBj'; simp
   ·obtain ⟨bo, g1, g2, g3⟩ := hprev j bj hkj hj
    obtain ⟨bo', g1', g2', g3'⟩ := hprev j' bj' hkj' hj'
    rw [← g2] at hBj; rw [← g2'] at hBj'
    exact hw.apart j j' bo bo' Bj Bj' g g1 g1' hjj (g3.trans hf1) (g3'.trans hf2) (hold j bo g1 _ hBj) (hold j' bo' g1' _ hBj') hbl
end

end Go.Proofs.YtppjinmlfcokaaaGreat.Av

namespace Go.Proofs.YtppjinmlfcokaaaGreat.Av
open Go.RowKit

def Au.tmps : Au → List Nat
 | .t i => [i]
 | .c _ | .s _ => []
def IOp.HV : IOp → List Nat
 | .Me _ _ _ x => x.tmps
 | .slO _ _ _ _ ps => ps.flatMap fun p => p.2.tmps
 | .store _ a x => a.tmps ++ x.tmps
 | .append _ _ _ _ s x => s.tmps ++ x.tmps
 | .Yy _ _ _ _ s x => s.tmps ++ x.tmps
 | .mkSlice _ _ _ _ x => x.tmps
 | .s2b _ _ x => x.tmps
 | .W6 _ _ _ _ s x => s.tmps ++ x.tmps
 | .MU _ x => x.tmps
 | .QB _ as => as.flatMap Au.tmps
 | .Md f as => f.tmps ++ as.flatMap Au.tmps
 | _ => []
def IOp.IC : IOp → Bool
 | .mov _ | .Gh _ _ | .VN _ _ _ | .len _ _ | .slF _ _ _ | .Adv _ _ _ | .Fz _ | .extract _ _ | .Qa _ _ _ | .WK _ _ => true
 | _ => false
def Fm (d : Option Nat) (v : AV) (F : Nat → AV) : Nat → AV :=
 match d with
 | some d => fun t => if d = t then v else F t
 | none => F
theorem Lu (s : St) (d : Option Nat) (x : AV) (hp : Hp) : Bv (s.put d x hp).fr = Fm d x (Bv s.fr) := by
 cases d <;> rfl
theorem NR {d d' : Option Nat} (h : ∀ k, d = some k → d' ≠ some k) (v u : AV) (F : Nat → AV) : Fm d' u (Fm d v F) = Fm d v (Fm d' u F) := by
 cases d with
 | none => rfl
 | some d => cases d' with
  | none => rfl
  | some e =>
   have hne : d ≠ e := fun e' => h d rfl (by rw [e'])
   funext t
   simp only [Fm]
   by_cases h1 : e = t
   ·rw [if_pos h1, if_neg (by omega), if_pos h1]
   ·rw [if_neg h1]
    by_cases h2 : d = t
    ·rw [if_pos h2, if_pos h2]
    ·rw [if_neg h2, if_neg h2, if_neg h1]
theorem Z7 {d : Option Nat} {v : AV} {F : Nat → AV} {t : Nat} (h : d ≠ some t) : Fm d v F t = F t := by
 cases d with
 | none => rfl
 | some d => simp only [Fm]; rw [if_neg (fun e => h (by rw [e]))]
theorem Au.El {x : Au} {d : Option Nat} {v : AV} {F : Nat → AV} (h : ∀ t ∈ x.tmps, d ≠ some t) : x.ev (Fm d v F) = x.ev F := by
 cases x with
 | t i => exact Z7 (h i (by simp [Au.tmps]))
 | c y => rfl
 | s y => rfl

section
variable {P : Program} {E : Env} {nt : Nat}

theorem QJ {d : Option Nat} {v : AV} {F : Nat → AV} {esz : Nat} : ∀ {ps : List (Nat × Au)} {es : List AV} {K : List AV → Prop}, (∀ p ∈ ps, ∀ t ∈ p.2.tmps, d ≠ some t) → DY (Fm d v F) esz es ps K → DY F esz es ps K
 | [], es, K, _, h => h
 | (i, x) :: r, es, K, hd, h => by
  unfold DY at h ⊢
  have e := Au.El (v := v) (F := F) (hd (i, x) (by simp))
  simp only at e
  rw [e] at h
  exact ⟨h.1, QJ (fun p hp => hd p (by simp [hp])) h.2⟩
theorem AdX {io : IOp} (hw : io.quiet = false) {d : Option Nat} {v : AV} {F : Nat → AV} (hd : ∀ t ∈ io.HV, d ≠ some t) {hp : Hp} {K : AV → Hp → Prop} (h : io.sem P (Fm d v F) hp K) : io.sem P F hp K := by
 cases io <;> simp only [IOp.quiet, Bool.true_eq_false] at hw
 case Me k ty n x => simp only [IOp.sem, Au.El (v := v) (F := F) hd] at h ⊢; exact h
 case slO k ty m z ps => simp only [IOp.sem] at h ⊢; exact QJ (fun p hp t ht => hd t (by simp only [IOp.HV, List.mem_flatMap]; exact ⟨p, hp, ht⟩)) h
 case store n a x =>
  simp only [IOp.HV, List.mem_append] at hd
  simp only [IOp.sem, Au.El (v := v) (F := F) (fun t ht => hd t (.inl ht)), Au.El (v := v) (F := F) (fun t ht => hd t (.inr ht))] at h ⊢; exact h
 case append k ty esz bytes s x =>
  simp only [IOp.HV, List.mem_append] at hd
  simp only [IOp.sem, Au.El (v := v) (F := F) (fun t ht => hd t (.inl ht)), Au.El (v := v) (F := F) (fun t ht => hd t (.inr ht))] at h ⊢; exact h
 case Yy k ty esz bytes s x =>
  simp only [IOp.HV, List.mem_append] at hd
  simp only [IOp.sem, Au.El (v := v) (F := F) (fun t ht => hd t (.inl ht)), Au.El (v := v) (F := F) (fun t ht => hd t (.inr ht))] at h ⊢; exact h
 case mkSlice k ty bytes z x => simp only [IOp.sem, Au.El (v := v) (F := F) hd] at h ⊢; exact h
 case s2b k ty x => simp only [IOp.sem, Au.El (v := v) (F := F) hd] at h ⊢; exact h
 case W6 k ty bytes z s x =>
  simp only [IOp.HV, List.mem_append] at hd
  simp only [IOp.sem, Au.El (v := v) (F := F) (fun t ht => hd t (.inl ht)), Au.El (v := v) (F := F) (fun t ht => hd t (.inr ht))] at h ⊢; exact h
 case MU neg x => simp only [IOp.sem, Au.El (v := v) (F := F) hd] at h ⊢; exact h
 case QB f as =>
  have e : (as.map fun x => (x.ev (Fm d v F)).Cf hp) = as.map fun x => (x.ev F).Cf hp := List.map_congr_left fun x hx => by rw [Au.El fun t ht => hd t (by simp only [IOp.HV, List.mem_flatMap]; exact ⟨x, hx, ht⟩)]
  simp only [IOp.sem, e] at h ⊢; exact h
 case Md f as =>
  have e : (as.map fun x => (x.ev (Fm d v F)).Cf hp) = as.map fun x => (x.ev F).Cf hp := List.map_congr_left fun x hx => by rw [Au.El fun t ht => hd t (by simp only [IOp.HV, List.mem_append, List.mem_flatMap]; exact .inr ⟨x, hx, ht⟩)]
  simp only [IOp.sem, e, Au.El (v := v) (F := F) (fun t ht => hd t (by simp only [IOp.HV, List.mem_append]; exact .inl ht))] at h ⊢; exact h

def QV (P : Program) (E : Env) (F : Nat → AV) (hp : Hp) (o : Oper) (x : AV) : Prop :=
 ∀ S w μ ρ, WI E S w μ hp → Fits S w μ F ρ o.op.operands.toList → (∀ v, ρ (.const v) = v) → (∀ f, ρ (.func f) = .func (.func f) #[] #[]) → Bg P ρ o w (Cm E S μ w hp x)
theorem QV.put {F : Nat → AV} {hp : Hp} {o : Oper} {x v : AV} {d : Option Nat} {ops : Array Oper} (hd : ∀ k, d = some k → k ∉ o.looksAt ops) (h : QV P E F hp o x) : QV P E (Fm d v F) hp o x := by
 intro S w μ ρ hw hf h1 h2
 refine h S w μ ρ hw (fun y hy iy hl => ?_) h1 h2
 have := hf y hy iy hl
 rwa [Au.El] at this
 intro t ht e
 refine hd t e (List.mem_append_left _ (List.mem_filterMap.2 ⟨y, hy, ?_⟩))
 unfold AB at hl
 split at hl
 ·cases hl; simp [Au.tmps] at ht; rw [ht]
 ·split at hl <;> cases hl; simp [Au.tmps] at ht
 ·rename_i u _; cases hv : L2 u <;> rw [hv] at hl <;> cases hl; simp [Au.tmps] at ht
 ·cases hl; simp [Au.tmps] at ht
 ·cases hl
theorem QV.AbQ {F : Nat → AV} {hp : Hp} {o : Oper} {x v : AV} {d : Option Nat} {ops : Array Oper} (hd : ∀ k, d = some k → k ∉ o.looksAt ops) (h : QV P E (Fm d v F) hp o x) : QV P E F hp o x := by
 intro S w μ ρ hw hf h1 h2
 refine h S w μ ρ hw (fun y hy iy hl => ?_) h1 h2
 have := hf y hy iy hl
 rwa [Au.El]
 intro t ht e
 refine hd t e (List.mem_append_left _ (List.mem_filterMap.2 ⟨y, hy, ?_⟩))
 unfold AB at hl
 split at hl
 ·cases hl; simp [Au.tmps] at ht; rw [ht]
 ·split at hl <;> cases hl; simp [Au.tmps] at ht
 ·rename_i u _; cases hv : L2 u <;> rw [hv] at hl <;> cases hl; simp [Au.tmps] at ht
 ·cases hl; simp [Au.tmps] at ht
 ·cases hl

def FB (g : Option (Nat × Bool)) (F : Nat → AV) : Option Bool :=
 match g with
 | none => some true
 | some (t, want) => match F t with
   | .bool b => some (b == want)
   | .tup _ => some false
   | _ => none
def HO (g : Option (Nat × Bool)) : List Nat :=
 match g with
 | none => []
 | some (t, _) => [t]
theorem NC {g : Option (Nat × Bool)} {d : Option Nat} {v : AV} {F : Nat → AV} (h : ∀ t ∈ HO g, d ≠ some t) : FB g (Fm d v F) = FB g F := by
 cases g with
 | none => rfl
 | some tw => obtain ⟨t, want⟩ := tw; simp only [FB, Z7 (h t (by simp [HO]))]

def Yl (P : Program) (E : Env) (g : Option (Nat × Bool)) (o : Oper) (F : Nat → AV) (hp : Hp) (x : AV) : Prop :=
 (FB g F = some true ∧ QV P E F hp o x) ∨ (FB g F = some false ∧ x = .tup [])

def Hr (P : Program) (E : Env) (io : B6) (o : Oper) (K : (Nat → AV) → Hp → Prop) (F : Nat → AV) (hp : Hp) : Prop :=
 if io.op.quiet then ∃ x, Yl P E io.guard o F hp x ∧ K (Fm o.dst x F) hp
 else match FB io.guard F with
  | some true => io.op.sem P F hp fun v hp' => K (Fm o.dst v F) hp'
  | some false => K (Fm o.dst (.tup []) F) hp
  | none => False

def QG (P : Program) (E : Env) (ops : Array Oper) (il : List B6) (Q : (Nat → AV) → Hp → Prop) : Nat → Array Bool → (Nat → AV) → Hp → Prop
 | 0, listed, F, hp => Region.ready .any ops listed = [] ∧ Q F hp
 | fuel + 1, listed, F, hp => (Region.ready .any ops listed = [] → Q F hp) ∧
   ∀ i ∈ Region.ready .any ops listed, ∃ io o, il[i]? = some io ∧ ops[i]? = some o ∧ Hr P E io o (QG P E ops il Q fuel (listed.setIfInBounds i true)) F hp

def Xn (E : Env) (nt : Nat) (F : Nat → AV) (hp : Hp) (a : Act) (w : World) : Prop :=
 a.defers = [] ∧ a.tmps.size = nt ∧ ∃ S μ, WI E S w μ hp ∧ ∀ t, VR S w μ (a.tmps.getD t Go.undef) (F t)
theorem Xn.put {F : Nat → AV} {a : Act} {w w' : World} {d : Option Nat} {v : Value} {x : AV} {hp' : Hp} {S S' : Nat → Prop} {μ μ' : Mu} (hd : a.defers = []) (hn : a.tmps.size = nt) (hf : ∀ t, VR S w μ (a.tmps.getD t Go.undef) (F t)) (hdok : Sx nt d = true)
  (hv : VR S' w' μ' v x) (hw : WI E S' w' μ' hp') (hS : ∀ b, S b → S' b) (hsame : BZ S w w') (hμ : Mu.le μ μ') : Xn E nt (Fm d x F) hp' (a.put d v) w' := by
 cases d with
 | none => exact ⟨hd, hn, S', μ', hw, fun t => (hf t).mono hS hsame hμ⟩
 | some d =>
  have hlt : d < nt := by simpa [Sx] using hdok
  refine ⟨hd, by simp [Act.put, hn], S', μ', hw, fun t => ?_⟩
  show VR S' w' μ' ((a.tmps.setIfInBounds d v).getD t Go.undef) (if d = t then x else F t)
  by_cases h : d = t
  ·subst h
   have : (a.tmps.setIfInBounds d v).getD d Go.undef = v := by simp [hn, hlt]
   rw [this, if_pos rfl]; exact hv
  ·rw [if_neg h]
   have : (a.tmps.setIfInBounds d v).getD t Go.undef = a.tmps.getD t Go.undef := by
    simp [Array.getElem?_setIfInBounds_ne h]
   rw [this]
   exact (hf t).mono hS hsame hμ

theorem Mp {S : Nat → Prop} {w : World} {μ : Mu} {a : Act} {F : Nat → AV} (hf : ∀ t, VR S w μ (a.tmps.getD t Go.undef) (F t)) {ops : Array Oper} {o : Oper} {g : Option (Nat × Bool)} (hg : HC ops o.guard = some g) {b : Bool} (hb : FB g F = some b) : Region.wanted o (yielded ops a.tmps) = b := by
 cases g with
 | none => simp [FB] at hb; rw [hb]; exact NZ hg
 | some tw =>
  obtain ⟨t, want⟩ := tw
  obtain ⟨w1, w2⟩ := Ri hf hg
  simp only [FB] at hb
  split at hb
  ·rename_i c hc; rw [w1 c hc]; simpa using hb
  ·rename_i xs hc; rw [w2 xs hc]; simpa using hb
  ·cases hb

theorem EM {own : List (Nat × Nat)} {ops : Array Oper} : ∀ {l : List Oper} {il : List B6}, Du P nt own ops l = some il → ∀ (i : Nat) (o : Oper), l[i]? = some o → ∃ io, il[i]? = some io ∧ H7 P nt own ops o = some io
 | [], il, h, i, o, ho => by simp at ho
 | x :: l, il, h, i, o, ho => by
  unfold Du at h
  split at h
  ·rename_i y ys h1 h2
   cases h
   cases i with
   | zero => simp at ho; subst ho; exact ⟨y, rfl, h1⟩
   | succ i => obtain ⟨io, h3, h4⟩ := EM h2 i o (by simpa using ho); exact ⟨io, by simpa using h3, h4⟩
  ·cases h
theorem L3 {own : List (Nat × Nat)} {ops : Array Oper} {o : Oper} {io : B6} (h : H7 P nt own ops o = some io) : HC ops o.guard = some io.guard ∧ PX P own o = some io.op ∧ Sx nt o.dst = true ∧ io.dst = o.dst := by
 unfold H7 at h
 split at h
 ·split at h
  ·cases h; exact ⟨by assumption, by assumption, by assumption, rfl⟩
  ·cases h
 ·cases h

theorem Jz {own : List (Nat × Nat)} {ops : Array Oper} {il : List B6} (hl : Du P nt own ops ops.toList = some il) {Q : (Nat → AV) → Hp → Prop} {Q' : Exit → Act → World → Prop} (hQ : ∀ F hp a w, Q F hp → Xn E nt F hp a w → Q' .normal a w) :
  ∀ (fuel : Nat) (listed : Array Bool) (F : Nat → AV) (hp : Hp) (a : Act) (w : World), QG P E ops il Q fuel listed F hp → Xn E nt F hp a w → wpAny P .any ops Q' fuel listed a w
 | 0, _, _, _, _, _, h, hr => ⟨h.1, hQ _ _ _ _ h.2 hr⟩
 | fuel + 1, listed, F, hp, a, w, h, hr => by
  refine ⟨fun h0 => hQ _ _ _ _ (h.1 h0) hr, fun i hi => ?_⟩
  obtain ⟨io, o, h1, h2, h3⟩ := h.2 i hi
  obtain ⟨io', h4, h5⟩ := EM hl i o (by simpa using h2)
  rw [h1] at h4
  cases h4
  obtain ⟨hg, hop, hdok, hdst⟩ := L3 h5
  obtain ⟨hd, hn, S, μ, hw, hf⟩ := hr
  unfold wpOp
  simp only [h2]
  unfold Hr at h3
  split at h3
  ·obtain ⟨x, hy, hk⟩ := h3
   rcases hy with ⟨hwt, hq⟩ | ⟨hwt, rfl⟩
   ·rw [if_pos (Mp hf hg hwt)]
    refine .inl ((hq S w μ a.eval hw (Qp hf _) (fun _ => rfl) (fun _ => rfl)).wp fun v w' ⟨S', c1, c2, c3, c4⟩ => ?_)
    exact Jz hl hQ fuel _ _ _ _ _ hk (Xn.put hd hn hf hdok c1 c2 c3 c4 (Mu.le.refl _))
   ·rw [if_neg (by rw [Mp hf hg hwt]; simp)]
    exact Jz hl hQ fuel _ _ _ _ _ hk (Xn.put hd hn hf hdok VR.undef hw (fun _ h => h) (BZ.refl _ _) (Mu.le.refl _))
  ·split at h3
   ·rename_i hwt
    rw [if_pos (Mp hf hg hwt)]
    refine .inl ((ZF hop h3 hw (Qp hf _) (fun _ => rfl) (fun _ => rfl)).wp fun v w' ⟨x, hp', S', μ', hk, c1, c2, c3, c4, c5⟩ => ?_)
    exact Jz hl hQ fuel _ _ _ _ _ hk (Xn.put hd hn hf hdok c1 c2 c3 c4 c5)
   ·rename_i hwt
    rw [if_neg (by rw [Mp hf hg hwt]; simp)]
    exact Jz hl hQ fuel _ _ _ _ _ h3 (Xn.put hd hn hf hdok VR.undef hw (fun _ h => h) (BZ.refl _ _) (Mu.le.refl _))
   ·exact h3.elim

/-! ### Which order serves all -/
def Afl (l s : List Nat) : List Nat := l.foldl (fun s x => if s.contains x then s else x :: s) s
def Mb (ops : Array Oper) : List (List Nat) :=
 ops.toList.foldl (fun acc o => acc ++ [o.after.toList.foldl (fun s e => if Region.binds .any e then Afl (e.on :: acc.getD e.on []) s else s) []]) []
def II (ops : Array Oper) (D : List (List Nat)) : Bool :=
 (List.range ops.size).all fun j => match ops[j]? with
  | none => true
  | some o => (D.getD j []).all fun m => o.after.toList.any fun e => Region.binds .any e && decide (e.on < j) && (e.on == m || (D.getD e.on []).contains m)
def JV (ops : Array Oper) (listed : Array Bool) : Prop := ∀ (j : Nat) (o : Oper), ops[j]? = some o → listed.getD j false = true → ∀ e ∈ o.after, Region.binds .any e = true → listed.getD e.on false = true
theorem Oz {ops : Array Oper} {D : List (List Nat)} (hD : II ops D = true) {listed : Array Bool} (hc : JV ops listed) : ∀ (n j : Nat), j ≤ n → ∀ o, ops[j]? = some o → (∀ e ∈ o.after, Region.binds .any e = true → listed.getD e.on false = true) → ∀ m ∈ D.getD j [], listed.getD m false = true := by
 intro n
 induction n with
 | zero =>
  intro j hj o ho hall m hm
  obtain rfl : j = 0 := by omega
  have hlt : 0 < ops.size := (Array.getElem?_eq_some_iff.1 ho).1
  simp only [II, List.all_eq_true, List.mem_range] at hD
  have h1 := hD 0 hlt
  simp only [ho, List.all_eq_true] at h1
  obtain ⟨e, he, hb⟩ := List.any_eq_true.1 (h1 m hm)
  simp at hb
 | succ n ih =>
  intro j hj o ho hall m hm
  have hlt : j < ops.size := (Array.getElem?_eq_some_iff.1 ho).1
  have hD' := hD
  simp only [II, List.all_eq_true, List.mem_range] at hD
  have h1 := hD j hlt
  simp only [ho, List.all_eq_true] at h1
  obtain ⟨e, he, hb⟩ := List.any_eq_true.1 (h1 m hm)
  simp only [Bool.and_eq_true, decide_eq_true_eq, Bool.or_eq_true, beq_iff_eq] at hb
  obtain ⟨⟨hb1, hlt'⟩, hb2⟩ := hb
  have he' : e ∈ o.after := Array.mem_def.2 he
  rcases hb2 with rfl | hb2
  ·exact hall e he' hb1
  ·have hl := hall e he' hb1
   have hlt2 : e.on < ops.size := by omega
   exact ih e.on (by omega) ops[e.on] (by simp [hlt2]) (hc e.on ops[e.on] (by simp [hlt2]) hl) m (by simpa using hb2)
theorem Mc {ops : Array Oper} {listed : Array Bool} (hc : JV ops listed) {i : Nat} (hi : i ∈ Region.ready .any ops listed) : JV ops (listed.setIfInBounds i true) := by
 intro j o ho hj e he hb
 by_cases hij : i = j
 ·subst hij
  obtain ⟨_, o', ho', hall⟩ := mem_ready.1 hi
  rw [ho] at ho'
  cases ho'
  exact getD_set_true (hall e he hb)
 ·rw [getD_set_ne false hij] at hj
  exact getD_set_true (hc j o ho hj e he hb)

def Z6 (ops : Array Oper) (il : List B6) (D : List (List Nat)) (listed : Array Bool) (i : Nat) : Bool :=
 match ops[i]?, il[i]? with
 | some oi, some ii => (List.range ops.size).all fun j => j == i || listed.getD j true || (D.getD j []).contains i ||
   (ii.op.quiet && match ops[j]?, il[j]? with
    | some oj, some ij => oi.apart ops oj && (match oj.dst with | some d => !(HO ii.guard).contains d | none => true) && (match oi.dst with | some d => !(HO ij.guard).contains d && !(ij.op.HV).contains d | none => true) && (ij.op.quiet || ii.op.IC)
    | _, _ => true)
 | _, _ => false
def L0 (ops : Array Oper) (il : List B6) (D : List (List Nat)) : List Nat → Array Bool → Bool
 | [], listed => (Region.ready .any ops listed).isEmpty
 | i :: r, listed => (Region.ready .any ops listed).contains i && Z6 ops il D listed i && L0 ops il D r (listed.setIfInBounds i true)

def YlP (P : Program) (E : Env) (ii : B6) (o : Oper) (F : Nat → AV) (hp : Hp) (x : AV) : Prop := Yl P E ii.guard o F hp x ∧ (ii.op.IC = true → ∀ hp', Yl P E ii.guard o F hp' x)
theorem Yl.put {g : Option (Nat × Bool)} {o : Oper} {F : Nat → AV} {hp : Hp} {x v : AV} {d : Option Nat} {ops : Array Oper} (h1 : ∀ k, d = some k → k ∉ o.looksAt ops) (h2 : ∀ t ∈ HO g, d ≠ some t) (h : Yl P E g o F hp x) : Yl P E g o (Fm d v F) hp x := by
 unfold Yl at *
 rw [NC h2]
 exact h.imp (fun ⟨a, b⟩ => ⟨a, b.put h1⟩) id
theorem Yl.AbQ {g : Option (Nat × Bool)} {o : Oper} {F : Nat → AV} {hp : Hp} {x v : AV} {d : Option Nat} {ops : Array Oper} (h1 : ∀ k, d = some k → k ∉ o.looksAt ops) (h2 : ∀ t ∈ HO g, d ≠ some t) (h : Yl P E g o (Fm d v F) hp x) : Yl P E g o F hp x := by
 unfold Yl at *
 rw [NC h2] at h
 exact h.imp (fun ⟨a, b⟩ => ⟨a, b.AbQ h1⟩) id
theorem YlP.put {ii : B6} {o : Oper} {F : Nat → AV} {hp : Hp} {x v : AV} {d : Option Nat} {ops : Array Oper} (h1 : ∀ k, d = some k → k ∉ o.looksAt ops) (h2 : ∀ t ∈ HO ii.guard, d ≠ some t) (h : YlP P E ii o F hp x) : YlP P E ii o (Fm d v F) hp x :=
 ⟨h.1.put h1 h2, fun hpu hp' => (h.2 hpu hp').put h1 h2⟩

theorem Pq {io : IOp} {F : Nat → AV} {hp : Hp} {K K' : AV → Hp → Prop} (hq : io.quiet = false) (hk : ∀ v hp', K v hp' → K' v hp') (h : io.sem P F hp K) : io.sem P F hp K' := by
 cases io <;> simp only [IOp.quiet, Bool.true_eq_false] at hq
 case Me k ty n x => exact ⟨h.1, fun v => hk _ _ (h.2 v)⟩
 case slO k ty m z ps =>
  simp only [IOp.sem] at h ⊢
  have : ∀ {ps : List (Nat × Au)} {es : List AV} {L L' : List AV → Prop}, (∀ es, L es → L' es) → DY F z.cells.length es ps L → DY F z.cells.length es ps L' := by
   intro ps
   induction ps with
   | nil => intro es L L' hl h; exact hl _ h
   | cons p r ih => intro es L L' hl h; exact ⟨h.1, ih hl h.2⟩
  exact this (fun es h v => hk _ _ (h v)) h
 case store n a x =>
  simp only [IOp.sem, Mh] at h ⊢
  split at h
  ·split at h
   ·exact ⟨h.1, hk _ _ h.2⟩
   ·exact h
  ·exact h
 case append k ty esz bytes s x =>
  simp only [IOp.sem, Rf] at h ⊢
  split at h
  ·exact ⟨h.1, fun v => hk _ _ (h.2 v)⟩
  ·split at h
   ·exact ⟨h.1, fun v => hk _ _ (h.2 v)⟩
   ·exact h
  ·exact h
 case Yy k ty esz bytes s x =>
  simp only [IOp.sem, Rf] at h ⊢
  split at h
  ·exact ⟨h.1, fun v => hk _ _ (h.2 v)⟩
  ·split at h
   ·exact ⟨h.1, fun v => hk _ _ (h.2 v)⟩
   ·exact h
  ·exact h
 case mkSlice k ty bytes z x =>
  simp only [IOp.sem] at h ⊢
  split at h
  ·exact ⟨h.1, fun v => hk _ _ (h.2 v)⟩
  ·exact h
 case W6 k ty bytes z s x =>
  simp only [IOp.sem, AaA] at h ⊢
  split at h
  ·exact ⟨h.1, fun v => hk _ _ (h.2 v)⟩
  ·exact h
 case s2b k ty x =>
  simp only [IOp.sem, Aer] at h ⊢
  split at h
  ·exact fun v => hk _ _ (h v)
  ·exact h
 case MU neg x =>
  simp only [IOp.sem] at h ⊢
  split at h
  ·exact ⟨fun e => hk _ _ (h.1 e), hk _ _ h.2⟩
  ·exact hk _ _ h
  ·exact h
 case QB f as =>
  obtain ⟨hs, Post, h | h⟩ := h
  ·exact ⟨hs, Post, .inl ⟨h.1, fun r hp' hp => hk _ _ (h.2 r hp' hp)⟩⟩
  ·exact ⟨hs, Post, .inr ⟨h.1, fun r hp' hp => ⟨(h.2 r hp' hp).1, hk _ _ (h.2 r hp' hp).2⟩⟩⟩
 case Md f as =>
  simp only [IOp.sem, Ny] at h ⊢
  split at h
  ·obtain ⟨hs, Post, h | h⟩ := h
   ·exact ⟨hs, Post, .inl ⟨h.1, fun r hp' hp => hk _ _ (h.2 r hp' hp)⟩⟩
   ·exact ⟨hs, Post, .inr ⟨h.1, fun r hp' hp => ⟨(h.2 r hp' hp).1, hk _ _ (h.2 r hp' hp).2⟩⟩⟩
  ·exact h

theorem LW {io : B6} {o : Oper} {K K' : (Nat → AV) → Hp → Prop} (h : ∀ F hp, K F hp → K' F hp) {F : Nat → AV} {hp : Hp} (hh : Hr P E io o K F hp) : Hr P E io o K' F hp := by
 unfold Hr at *
 split at hh
 ·rename_i hq; rw [if_pos hq]; obtain ⟨x, h1, h2⟩ := hh; exact ⟨x, h1, h _ _ h2⟩
 ·rename_i hq
  rw [if_neg hq]
  split at hh
  ·exact Pq (by simpa using hq) (fun v hp' => h _ _) hh
  ·exact h _ _ hh
  ·exact hh

theorem Aa0 {ii ij : B6} {oi oj : Oper} {ops : Array Oper} {v : AV} {K : (Nat → AV) → Hp → Prop} {F : Nat → AV} {hp : Hp} (hap : oi.apart ops oj = true) (hgi : ∀ t ∈ HO ii.guard, oj.dst ≠ some t) (hgj : ∀ t ∈ HO ij.guard, oi.dst ≠ some t) (hwj : ∀ t ∈ ij.op.HV, oi.dst ≠ some t)
  (hqp : ij.op.quiet = true ∨ ii.op.IC = true) (hy : YlP P E ii oi F hp v) (h : Hr P E ij oj K (Fm oi.dst v F) hp) :
  Hr P E ij oj (fun F' hp' => YlP P E ii oi F' hp' v ∧ K (Fm oi.dst v F') hp') F hp := by
 obtain ⟨a1, a2, a3⟩ := Oper.apart_spec hap
 have keep : ∀ u, YlP P E ii oi (Fm oj.dst u F) hp v := fun u => hy.put a3 hgi
 unfold Hr at *
 split at h
 ·rename_i hq
  rw [if_pos hq]
  obtain ⟨x, h1, h2⟩ := h
  exact ⟨x, h1.AbQ a1 hgj, keep x, by rw [← NR a2]; exact h2⟩
 ·rename_i hq
  have hpu : ii.op.IC = true := hqp.resolve_left hq
  have keep' : ∀ u hp', YlP P E ii oi (Fm oj.dst u F) hp' v := fun u hp' => ⟨(keep u).2 hpu hp', (keep u).2⟩
  rw [NC hgj] at h
  rw [if_neg hq]
  split at h
  ·exact Pq (by simpa using hq) (fun u hp' hk => ⟨keep' u hp', by rw [← NR a2]; exact hk⟩) (AdX (by simpa using hq) hwj h)
  ·exact ⟨keep _, by rw [← NR a2]; exact h⟩
  ·exact h

theorem Qn {ops : Array Oper} {il : List B6} {D : List (List Nat)} {listed : Array Bool} {i : Nat} {oi : Oper} {ii : B6} (hi : ops[i]? = some oi) (hii : il[i]? = some ii) (h : Z6 ops il D listed i = true) :
  ∀ j oj ij, ops[j]? = some oj → il[j]? = some ij → j ≠ i → listed.getD j true = false → i ∈ D.getD j [] ∨ (ii.op.quiet = true ∧ oi.apart ops oj = true ∧ (∀ t ∈ HO ii.guard, oj.dst ≠ some t) ∧ (∀ t ∈ HO ij.guard, oi.dst ≠ some t) ∧ (∀ t ∈ ij.op.HV, oi.dst ≠ some t) ∧ (ij.op.quiet = true ∨ ii.op.IC = true)) := by
 intro j oj ij hj hij hne hun
 simp only [Z6, hi, hii, List.all_eq_true, List.mem_range] at h
 have h1 := h j (Array.getElem?_eq_some_iff.1 hj).1
 simp only [hj, hij, Bool.or_eq_true, beq_iff_eq, hne, false_or, hun, Bool.false_eq_true, Bool.and_eq_true] at h1
 rcases h1 with h1 | ⟨h1, ⟨⟨h2, h3⟩, h4⟩, h5⟩
 ·exact .inl (by simpa using h1)
 ·refine .inr ⟨h1, h2, fun t ht e => ?_, fun t ht e => ?_, fun t ht e => ?_, h5⟩
  ·rw [e] at h3; simp at h3; exact h3 ht
  ·rw [e] at h4; simp at h4; exact h4.1 ht
  ·rw [e] at h4; simp at h4; exact h4.2 ht

theorem QF {ops : Array Oper} {il : List B6} {D : List (List Nat)} (hD : II ops D = true) {Q : (Nat → AV) → Hp → Prop} {i : Nat} {oi : Oper} {ii : B6} {v : AV} (hi : ops[i]? = some oi) (hii : il[i]? = some ii) (hqi : ii.op.quiet = true) :
  ∀ (fuel : Nat) (listed : Array Bool) (F : Nat → AV) (hp : Hp), JV ops listed →
   (∀ j oj ij, ops[j]? = some oj → il[j]? = some ij → j ≠ i → listed.getD j true = false → i ∈ D.getD j [] ∨ (ii.op.quiet = true ∧ oi.apart ops oj = true ∧ (∀ t ∈ HO ii.guard, oj.dst ≠ some t) ∧ (∀ t ∈ HO ij.guard, oi.dst ≠ some t) ∧ (∀ t ∈ ij.op.HV, oi.dst ≠ some t) ∧ (ij.op.quiet = true ∨ ii.op.IC = true))) →
   i ∈ Region.ready .any ops listed → YlP P E ii oi F hp v → QG P E ops il Q fuel (listed.setIfInBounds i true) (Fm oi.dst v F) hp → QG P E ops il Q (fuel + 1) listed F hp := by
 intro fuel
 have here : ∀ {K : (Nat → AV) → Hp → Prop} {F hp}, YlP P E ii oi F hp v → K (Fm oi.dst v F) hp → ∃ io o, il[i]? = some io ∧ ops[i]? = some o ∧ Hr P E io o K F hp := fun hy hk => by
  refine ⟨ii, oi, hii, hi, ?_⟩
  unfold Hr
  rw [if_pos hqi]
  exact ⟨v, hy.1, hk⟩
 induction fuel with
 | zero =>
  intro listed F hp hc GN hr hy H
  refine ⟨fun h => (by rw [h] at hr; cases hr), fun j hj => ?_⟩
  by_cases hji : j = i
  ·subst hji; exact here hy H
  ·have := ready_mono hj hji
   rw [H.1] at this
   cases this
 | succ fuel ih =>
  intro listed F hp hc GN hr hy H
  refine ⟨fun h => (by rw [h] at hr; cases hr), fun j hj => ?_⟩
  by_cases hji : j = i
  ·subst hji; exact here hy H
  ·obtain ⟨ij, oj, hij, hoj, h1⟩ := H.2 j (ready_mono hj hji)
   obtain ⟨hjun, oj', hoj', hall⟩ := mem_ready.1 hj
   rw [hoj] at hoj'
   cases hoj'
   have hiun := (mem_ready.1 hr).1
   have hnot : i ∉ D.getD j [] := fun hm => by
    have h2 := Oz hD hc j j (Nat.le_refl _) oj hoj hall i hm
    rcases Nat.lt_or_ge i listed.size with h' | h'
    ·simp [h'] at hiun h2; rw [hiun] at h2; cases h2
    ·simp [Array.getElem?_eq_none h'] at h2
   obtain ⟨_, f1, f2, f3, f4, f5⟩ := (GN j oj ij hoj hij hji hjun).resolve_left hnot
   have h2 := Aa0 f1 f2 f3 f4 f5 hy h1
   refine ⟨ij, oj, hij, hoj, LW (fun F' hp' h3 => ih (listed.setIfInBounds j true) F' hp' (Mc hc hj) (fun k ok ik hk hik hki hun => ?_) (ready_mono hr (Ne.symm hji)) h3.1 ?_) h2⟩
   ·refine GN k ok ik hk hik hki ?_
    by_cases hjk : j = k
    ·subst hjk; exact hjun
    ·rw [getD_set_ne true hjk] at hun; exact hun
   ·rw [Array.setIfInBounds_comm _ _ hji]
    exact h3.2

theorem QE {ops : Array Oper} {il : List B6} {D : List (List Nat)} (hD : II ops D = true) {Q : (Nat → AV) → Hp → Prop} {i : Nat} {oi : Oper} {ii : B6} (hi : ops[i]? = some oi) (hii : il[i]? = some ii) (hqi : ii.op.quiet = false)
  {fuel : Nat} {listed : Array Bool} {F : Nat → AV} {hp : Hp} (hc : JV ops listed) (hlen : ∀ (j : Nat) (o : Oper), ops[j]? = some o → ∃ io, il[j]? = some io)
  (GN : ∀ j oj ij, ops[j]? = some oj → il[j]? = some ij → j ≠ i → listed.getD j true = false → i ∈ D.getD j [] ∨ (ii.op.quiet = true ∧ oi.apart ops oj = true ∧ (∀ t ∈ HO ii.guard, oj.dst ≠ some t) ∧ (∀ t ∈ HO ij.guard, oi.dst ≠ some t) ∧ (∀ t ∈ ij.op.HV, oi.dst ≠ some t) ∧ (ij.op.quiet = true ∨ ii.op.IC = true)))
  (hr : i ∈ Region.ready .any ops listed) (h : Hr P E ii oi (QG P E ops il Q fuel (listed.setIfInBounds i true)) F hp) : QG P E ops il Q (fuel + 1) listed F hp := by
 refine ⟨fun h => (by rw [h] at hr; cases hr), fun j hj => ?_⟩
 by_cases hji : j = i
 ·subst hji; exact ⟨ii, oi, hii, hi, h⟩
 ·exfalso
  obtain ⟨hjun, oj, hoj, hall⟩ := mem_ready.1 hj
  have hiun := (mem_ready.1 hr).1
  obtain ⟨ij, hij⟩ := hlen j oj hoj
  rcases GN j oj ij hoj hij hji hjun with hm | ⟨hq, _⟩
  ·have h2 := Oz hD hc j j (Nat.le_refl _) oj hoj hall i hm
   rcases Nat.lt_or_ge i listed.size with h' | h'
   ·simp [h'] at hiun h2; rw [hiun] at h2; cases h2
   ·simp [Array.getElem?_eq_none h'] at h2
  ·rw [hqi] at hq; cases hq

theorem Aci {own : List (Nat × Nat)} {o : Oper} {io : IOp} {F : Nat → AV} {hp : Hp} {K : AV → Hp → Prop} (hl : PX P own o = some io) (hpu : io.IC = true) (h : io.sem P F hp K) : ∃ x, K x hp ∧ ∀ hp', QV P E F hp' o x := by
 cases io <;> simp only [IOp.IC, Bool.false_eq_true] at hpu
 case mov x =>
  refine ⟨x.ev F, h, fun hp' => ?_⟩
  obtain ⟨y, hy, hq⟩ := Dq (P := P) (E := E) (fr := F) (hp := hp') (K := fun v _ => v = x.ev F) hl rfl rfl
  cases hy
  exact hq
 case Gh off x =>
  simp only [IOp.sem, JS] at h
  split at h
  ·rename_i cs e1
   refine ⟨_, h, fun hp' => ?_⟩
   obtain ⟨y, hy, hq⟩ := Dq (P := P) (E := E) (fr := F) (hp := hp') (K := fun v _ => v = .obj (cs.drop off)) hl rfl (by simp only [IOp.sem, JS, e1])
   cases hy
   exact hq
  ·rename_i k v i o' e1
   refine ⟨_, h, fun hp' => ?_⟩
   obtain ⟨y, hy, hq⟩ := Dq (P := P) (E := E) (fr := F) (hp := hp') (K := fun w _ => w = .ptr k v i (o' + off)) hl rfl (by simp only [IOp.sem, JS, e1])
   cases hy
   exact hq
  ·exact h.elim
 case extract i a =>
  simp only [IOp.sem, HT] at h
  split at h
  ·rename_i xs e1
   refine ⟨_, h.2, fun hp' => ?_⟩
   obtain ⟨y, hy, hq⟩ := Dq (P := P) (E := E) (fr := F) (hp := hp') (K := fun v _ => v = xs.getD i .top) hl rfl (by simp only [IOp.sem, HT, e1]; exact ⟨h.1, trivial⟩)
   cases hy
   exact hq
  ·exact h.elim
 case Qa e x i =>
  simp only [IOp.sem, F9] at h
  split at h
  ·rename_i es kd i' e1 e2
   refine ⟨_, h.2, fun hp' => ?_⟩
   obtain ⟨y, hy, hq⟩ := Dq (P := P) (E := E) (fr := F) (hp := hp') (K := fun v _ => v = .obj (es.getD i'.toNat .top).cells) hl rfl (by simp only [IOp.sem, F9, e1, e2]; exact ⟨h.1, trivial⟩)
   cases hy
   exact hq
  ·exact h.elim
  ·exact h.elim
 case WK f as =>
  simp only [IOp.sem] at h
  obtain ⟨h0, r, h1, hk⟩ := h
  refine ⟨r, hk, fun hp' => ?_⟩
  obtain ⟨y, hy, hq⟩ := Dq (P := P) (E := E) (fr := F) (hp := hp') (K := fun v _ => v = r) hl rfl (by simp only [IOp.sem]; exact ⟨h0, r, h1, rfl⟩)
  cases hy
  exact hq
 case Fz a =>
  simp only [IOp.sem, Hi] at h
  have fin : (∀ K' : AV → Prop, K' (a.ev F) → Hi (a.ev F) K') → K (a.ev F) hp → ∃ x, K x hp ∧ ∀ hp', QV P E F hp' o x := fun hz hk => by
   refine ⟨a.ev F, hk, fun hp' => ?_⟩
   obtain ⟨y, hy, hq⟩ := Dq (P := P) (E := E) (fr := F) (hp := hp') (K := fun v _ => v = a.ev F) hl rfl (hz (fun v => v = a.ev F) rfl)
   cases hy
   exact hq
  split at h
  ·rename_i e1; exact fin (fun K' hk => by rw [e1] at hk ⊢; exact hk) h
  ·rename_i e1; exact fin (fun K' hk => by rw [e1] at hk ⊢; exact hk) h
  ·rename_i e1; exact fin (fun K' hk => by rw [e1] at hk ⊢; exact hk) h
  ·exact h.elim
 case len g a =>
  simp only [IOp.sem, Nw] at h
  have fin : ∀ z : AV, (∀ K' : AV → Prop, K' z → Nw g (a.ev F) K') → K z hp → ∃ x, K x hp ∧ ∀ hp', QV P E F hp' o x := fun z hz hk => by
   refine ⟨z, hk, fun hp' => ?_⟩
   obtain ⟨y, hy, hq⟩ := Dq (P := P) (E := E) (fr := F) (hp := hp') (K := fun v _ => v = z) hl rfl (hz (fun v => v = z) rfl)
   cases hy
   exact hq
  split at h
  ·rename_i e1; exact fin _ (fun K' hk => by rw [e1]; exact ⟨h.1, hk⟩) h.2
  ·rename_i e1; exact fin _ (fun K' hk => by rw [e1]; exact ⟨h.1, hk⟩) h.2
  ·rename_i e1; exact fin _ (fun K' hk => by rw [e1]; exact ⟨h.1, hk⟩) h.2
  ·rename_i e1; exact fin _ (fun K' hk => by rw [e1]; exact ⟨h.1, hk⟩) h.2
  ·exact h.elim
 case Adv op x y =>
  simp only [IOp.sem] at h
  obtain ⟨v, h1, h2⟩ := AdD h
  refine ⟨_, h1, fun hp' => ?_⟩
  obtain ⟨y, hy, hq⟩ := Dq (P := P) (E := E) (fr := F) (hp := hp') (K := fun w _ => w = v) hl rfl (by simp only [IOp.sem]; exact h2 _ rfl)
  cases hy
  exact hq
 case slF m z ps =>
  simp only [IOp.sem] at h
  obtain ⟨es, ⟨h1, h2⟩, h3⟩ := SY h
  refine ⟨_, h2, fun hp' => ?_⟩
  obtain ⟨y, hy, hq⟩ := Dq (P := P) (E := E) (fr := F) (hp := hp') (K := fun v _ => v = .sl es) hl rfl (by simp only [IOp.sem]; exact h3 _ ⟨h1, rfl⟩)
  cases hy
  exact hq
 case VN g n a =>
  simp only [IOp.sem, F8] at h
  split at h
  ·rename_i cs e1
   cases g with
   | true =>
    refine ⟨_, h.2, fun hp' => ?_⟩
    obtain ⟨y, hy, hq⟩ := Dq (P := P) (E := E) (fr := F) (hp := hp') (K := fun v _ => v = .agg ((cs.drop 0).take n)) hl rfl (by simp only [IOp.sem, F8, e1, Gi]; exact ⟨h.1, trivial⟩)
    cases hy
    exact hq
   | false =>
    refine ⟨_, h.2, fun hp' => ?_⟩
    obtain ⟨y, hy, hq⟩ := Dq (P := P) (E := E) (fr := F) (hp := hp') (K := fun v _ => v = cs.getD 0 .top) hl rfl (by simp only [IOp.sem, F8, e1, Gi]; exact ⟨h.1, trivial⟩)
    cases hy
    exact hq
  ·exact h.elim
  ·exact h.elim

theorem Nu {own : List (Nat × Nat)} {ops : Array Oper} {o : Oper} {ii : B6} {Q : St → Prop} {rest : List B6} {s : St} (hlo : H7 P nt own ops o = some ii) (hq : ii.op.quiet = true) (h : BQ P Q (ii :: rest) s) :
  ∃ x, YlP P E ii o (Bv s.fr) s.hp x ∧ BQ P Q rest (s.put o.dst x s.hp) := by
 obtain ⟨hg, hop, hdok, hdst⟩ := L3 hlo
 have go : FB ii.guard (Bv s.fr) = some true → (ii.op.sem P (Bv s.fr) s.hp fun v hp => BQ P Q rest (s.put ii.dst v hp)) → ∃ x, YlP P E ii o (Bv s.fr) s.hp x ∧ BQ P Q rest (s.put o.dst x s.hp) := by
  intro hw hs
  rw [hdst] at hs
  by_cases hpu : ii.op.IC = true
  ·obtain ⟨x, hk, hx⟩ := Aci (E := E) hop hpu hs
   exact ⟨x, ⟨.inl ⟨hw, hx _⟩, fun _ hp' => .inl ⟨hw, hx hp'⟩⟩, hk⟩
  ·obtain ⟨x, hk, hx⟩ := Dq (E := E) hop hq hs
   exact ⟨x, ⟨.inl ⟨hw, hx⟩, fun e => absurd e hpu⟩, hk⟩
 have skip : FB ii.guard (Bv s.fr) = some false → BQ P Q rest (s.put ii.dst (.tup []) s.hp) → ∃ x, YlP P E ii o (Bv s.fr) s.hp x ∧ BQ P Q rest (s.put o.dst x s.hp) := by
  intro hw hs
  rw [hdst] at hs
  exact ⟨.tup [], ⟨.inr ⟨hw, rfl⟩, fun _ _ => .inr ⟨hw, rfl⟩⟩, hs⟩
 unfold BQ at h
 cases hgd : ii.guard with
 | none => rw [hgd] at h; exact go (by rw [hgd]; rfl) h
 | some tw =>
  obtain ⟨t, want⟩ := tw
  rw [hgd] at h
  simp only at h
  split at h
  ·rename_i b hb
   by_cases hbw : b = want
   ·exact go (by rw [hgd]; simp [FB, hb, hbw]) (h.1 hbw)
   ·have hnb : b = !want := by cases b <;> cases want <;> simp at hbw ⊢
    exact skip (by rw [hgd]; simp [FB, hb, hnb]) (h.2 hnb)
  ·rename_i xs hb
   exact skip (by rw [hgd]; simp [FB, hb]) h
  ·exact h.elim

theorem Nt {own : List (Nat × Nat)} {ops : Array Oper} {o : Oper} {ii : B6} {Q : St → Prop} {rest : List B6} {s : St} (hlo : H7 P nt own ops o = some ii) (hq : ii.op.quiet = false) (h : BQ P Q (ii :: rest) s) :
  Hr P E ii o (fun F hp => ∃ s', Bv s'.fr = F ∧ s'.hp = hp ∧ BQ P Q rest s') (Bv s.fr) s.hp := by
 obtain ⟨hg, hop, hdok, hdst⟩ := L3 hlo
 unfold Hr
 rw [if_neg (by simp [hq])]
 have go : (ii.op.sem P (Bv s.fr) s.hp fun v hp => BQ P Q rest (s.put ii.dst v hp)) → ii.op.sem P (Bv s.fr) s.hp fun v hp' => ∃ s', Bv s'.fr = Fm o.dst v (Bv s.fr) ∧ s'.hp = hp' ∧ BQ P Q rest s' := fun hs =>
  Pq hq (fun v hp' hk => ⟨s.put ii.dst v hp', by rw [hdst]; exact Lu s o.dst v hp', by cases ii.dst <;> rfl, hk⟩) hs
 have skip : BQ P Q rest (s.put ii.dst (.tup []) s.hp) → ∃ s', Bv s'.fr = Fm o.dst (.tup []) (Bv s.fr) ∧ s'.hp = s.hp ∧ BQ P Q rest s' := fun hs =>
  ⟨s.put ii.dst (.tup []) s.hp, by rw [hdst]; exact Lu s o.dst _ _, by cases ii.dst <;> rfl, hs⟩
 unfold BQ at h
 cases hgd : ii.guard with
 | none => rw [hgd] at h; exact go h
 | some tw =>
  obtain ⟨t, want⟩ := tw
  rw [hgd] at h
  simp only at h
  split at h
  ·rename_i b hb
   by_cases hbw : b = want
   ·have e : FB (some (t, want)) (Bv s.fr) = some true := by simp [FB, hb, hbw]
    rw [e]
    exact go (h.1 hbw)
   ·have hnb : b = !want := by cases b <;> cases want <;> simp at hbw ⊢
    have e : FB (some (t, want)) (Bv s.fr) = some false := by simp [FB, hb, hnb]
    rw [e]
    exact skip (h.2 hnb)
  ·rename_i xs hb
   have e : FB (some (t, want)) (Bv s.fr) = some false := by simp [FB, hb]
   rw [e]
   exact skip h
  ·exact h.elim

theorem Mf {own : List (Nat × Nat)} {ops : Array Oper} {il : List B6} {D : List (List Nat)} (hD : II ops D = true) (hl : Du P nt own ops ops.toList = some il) {Q : St → Prop} : ∀ (σ : List Nat) (listed : Array Bool) (s : St), JV ops listed → L0 ops il D σ listed = true →
  BQ P Q (σ.filterMap (il[·]?)) s → QG P E ops il (fun F hp => ∃ s', Bv s'.fr = F ∧ s'.hp = hp ∧ Q s') σ.length listed (Bv s.fr) s.hp
 | [], listed, s, hc, ho, h => ⟨by simpa [L0] using ho, s, rfl, rfl, h⟩
 | i :: r, listed, s, hc, ho, h => by
  simp only [L0, Bool.and_eq_true] at ho
  obtain ⟨⟨hr, hf⟩, ho⟩ := ho
  have hr' : i ∈ Region.ready .any ops listed := by simpa using hr
  obtain ⟨_, oi, hoi, _⟩ := mem_ready.1 hr'
  obtain ⟨ii, hii, hlo⟩ := EM hl i oi (by simpa using hoi)
  have GN := Qn hoi hii hf
  rw [List.filterMap_cons, hii] at h
  simp only at h
  have hcl := Mc hc hr'
  cases hq : ii.op.quiet with
  | true =>
   obtain ⟨x, hy, hk⟩ := Nu (E := E) hlo hq h
   refine QF hD hoi hii hq r.length listed _ _ hc GN hr' hy ?_
   have := Mf hD hl r _ _ hcl ho hk
   rw [Lu] at this
   have e : (s.put oi.dst x s.hp).hp = s.hp := by cases oi.dst <;> rfl
   rw [e] at this
   exact this
  | false =>
   refine QE hD hoi hii hq hc (fun j o hj => ?_) GN hr' (LW (fun F hp ⟨s', e1, e2, hk⟩ => ?_) (Nt hlo hq h))
   ·obtain ⟨io, h1, _⟩ := EM hl j o (by simpa using hj)
    exact ⟨io, h1⟩
   ·subst e1 e2
    exact Mf hD hl r _ s' hcl ho hk

def Jx (il : List B6) : List Nat :=
 ((List.range il.length).filter fun i => (il[i]?).any (·.op.quiet)) ++ ((List.range il.length).filter fun i => !(il[i]?).any (·.op.quiet))
def TE (P : Program) (nt : Nat) (own : List (Nat × Nat)) (ops : Array Oper) : Option (List B6) :=
 match Du P nt own ops ops.toList with
 | some il => if II ops (Mb ops) then
   if L0 ops il (Mb ops) (List.range ops.size) (Array.replicate ops.size false) then some ((List.range ops.size).filterMap (il[·]?))
   else if L0 ops il (Mb ops) (Jx il) (Array.replicate ops.size false) ∧ (Jx il).length = ops.size then some ((Jx il).filterMap (il[·]?)) else none
  else none
 | none => none

/-! ### Regions in which several operations may come up at the same time: every order, as a tree -/
def Wz (ii : B6) : BU → BU
 | .region l => .region (ii :: l)
 | .seq (.region l) c => .seq (.region (ii :: l)) c
 | c => .seq (.region [ii]) c
def Aaf : List BU → BU
 | [] => .region []
 | [c] => c
 | c :: r => .both c (Aaf r)
def Ts {α : Type} : List (Option α) → Option (List α)
 | [] => some []
 | none :: _ => none
 | some a :: r => (Ts r).map (a :: ·)
def N2 (ops : Array Oper) (il : List B6) (D : List (List Nat)) : Nat → Array Bool → Option BU
 | 0, listed => if (Region.ready .any ops listed).isEmpty then some (.region []) else none
 | m + 1, listed => if (Region.ready .any ops listed).isEmpty then some (.region []) else
   match (Region.ready .any ops listed).find? (Z6 ops il D listed ·) with
   | some i => (il[i]?).bind fun ii => (N2 ops il D m (listed.setIfInBounds i true)).map (Wz ii)
   | none => (Ts ((Region.ready .any ops listed).map fun i => (il[i]?).bind fun ii => (N2 ops il D m (listed.setIfInBounds i true)).map (Wz ii))).map Aaf
theorem PI {α β : Type} {f : β → Option α} : ∀ {l : List β} {r : List α}, Ts (l.map f) = some r → ∀ b ∈ l, ∃ a ∈ r, f b = some a
 | [], r, h, b, hb => by cases hb
 | c :: l, r, h, b, hb => by
  rw [List.map_cons] at h
  cases hc : f c with
  | none => rw [hc] at h; cases h
  | some a =>
   rw [hc] at h
   simp only [Ts, Option.map_eq_some_iff] at h
   obtain ⟨r', h1, rfl⟩ := h
   rcases List.mem_cons.1 hb with rfl | hb
   ·exact ⟨a, List.mem_cons_self, hc⟩
   ·obtain ⟨a', h2, h3⟩ := PI h1 b hb
    exact ⟨a', List.mem_cons_of_mem _ h2, h3⟩
theorem SM {Q : Exit → St → Prop} {s : St} : ∀ {l : List BU} {c : BU}, c ∈ l → awp P (Aaf l) Q s → awp P c Q s
 | [], c, h, _ => by cases h
 | [a], c, h, hs => by
  rw [List.mem_singleton] at h
  subst h
  exact hs
 | a :: b :: r, c, h, hs => by
  have hs' : awp P a Q s ∧ awp P (Aaf (b :: r)) Q s := hs
  rcases List.mem_cons.1 h with rfl | h
  ·exact hs'.1
  ·exact SM h hs'.2
theorem QD {Q : St → Prop} {o : B6} {r : List B6} {s : St} (h : BQ P Q (o :: r) s) : BQ P (fun s' => BQ P Q r s') [o] s := h
theorem AbH {Q : Exit → St → Prop} {ii : B6} {s : St} {c : BU} (h : awp P (Wz ii c) Q s) : BQ P (fun s' => awp P c Q s') [ii] s := by
 unfold Wz at h
 split at h
 ·exact QD h
 ·exact QD h
 ·exact h
theorem AbI {own : List (Nat × Nat)} {ops : Array Oper} {il : List B6} {D : List (List Nat)} (hD : II ops D = true) (hl : Du P nt own ops ops.toList = some il) {Q : Exit → St → Prop} : ∀ (n : Nat) (listed : Array Bool) (ic : BU) (s : St), JV ops listed → N2 ops il D n listed = some ic →
  awp P ic Q s → QG P E ops il (fun F hp => ∃ s', Bv s'.fr = F ∧ s'.hp = hp ∧ Q .normal s') n listed (Bv s.fr) s.hp := by
 have step : ∀ {m : Nat} {listed : Array Bool} {i : Nat} {ii : B6} {c : BU} {s : St}, (∀ (ic : BU) (s : St), JV ops (listed.setIfInBounds i true) → N2 ops il D m (listed.setIfInBounds i true) = some ic → awp P ic Q s →
    QG P E ops il (fun F hp => ∃ s', Bv s'.fr = F ∧ s'.hp = hp ∧ Q .normal s') m (listed.setIfInBounds i true) (Bv s.fr) s.hp) → JV ops listed → i ∈ Region.ready .any ops listed → il[i]? = some ii → N2 ops il D m (listed.setIfInBounds i true) = some c → awp P (Wz ii c) Q s →
   ∃ oi, ops[i]? = some oi ∧ H7 P nt own ops oi = some ii ∧ (ii.op.quiet = true → ∃ x, YlP P E ii oi (Bv s.fr) s.hp x ∧ QG P E ops il (fun F hp => ∃ s', Bv s'.fr = F ∧ s'.hp = hp ∧ Q .normal s') m (listed.setIfInBounds i true) (Fm oi.dst x (Bv s.fr)) s.hp) ∧
    (ii.op.quiet = false → Hr P E ii oi (QG P E ops il (fun F hp => ∃ s', Bv s'.fr = F ∧ s'.hp = hp ∧ Q .normal s') m (listed.setIfInBounds i true)) (Bv s.fr) s.hp) := by
  intro m listed i ii c s ih hc hi hii hcov h
  obtain ⟨_, oi, hoi, _⟩ := mem_ready.1 hi
  obtain ⟨ii', hii', hlo⟩ := EM hl i oi (by simpa using hoi)
  rw [hii] at hii'
  cases hii'
  have hcl := Mc hc hi
  have h1 := AbH h
  refine ⟨oi, hoi, hlo, fun hq => ?_, fun hq => ?_⟩
  ·obtain ⟨x, hy, hk⟩ := Nu (E := E) hlo hq h1
   refine ⟨x, hy, ?_⟩
   have := ih c _ hcl hcov hk
   rw [Lu] at this
   have e : (s.put oi.dst x s.hp).hp = s.hp := by cases oi.dst <;> rfl
   rw [e] at this
   exact this
  ·refine LW (fun F hp ⟨s', e1, e2, hk⟩ => ?_) (Nt hlo hq h1)
   subst e1 e2
   exact ih c s' hcl hcov hk
 intro n
 induction n with
 | zero =>
  intro listed ic s hc ht h
  simp only [N2] at ht
  split at ht
  ·rename_i hr
   cases ht
   exact ⟨List.isEmpty_iff.1 hr, s, rfl, rfl, h⟩
  ·cases ht
 | succ m ih =>
  intro listed ic s hc ht h
  simp only [N2] at ht
  split at ht
  ·rename_i hr
   cases ht
   have hr' := List.isEmpty_iff.1 hr
   exact ⟨fun _ => ⟨s, rfl, rfl, h⟩, fun j hj => by rw [hr'] at hj; cases hj⟩
  ·rename_i hr
   split at ht
   ·rename_i i hf
    have hi : i ∈ Region.ready .any ops listed := List.mem_of_find?_eq_some hf
    have hfr := List.find?_some hf
    simp only [Option.bind_eq_some_iff, Option.map_eq_some_iff] at ht
    obtain ⟨ii, hii, c, hcov, rfl⟩ := ht
    obtain ⟨oi, hoi, hlo, h1, h2⟩ := step (fun ic s => ih _ ic s) hc hi hii hcov h
    have GN := Qn hoi hii hfr
    cases hq : ii.op.quiet with
    | true =>
     obtain ⟨x, hy, hk⟩ := h1 hq
     exact QF hD hoi hii hq m listed _ _ hc GN hi hy hk
    | false =>
     refine QE hD hoi hii hq hc (fun j o hj => ?_) GN hi (h2 hq)
     obtain ⟨io, h1, _⟩ := EM hl j o (by simpa using hj)
     exact ⟨io, h1⟩
   ·simp only [Option.map_eq_some_iff] at ht
    obtain ⟨l, hall, rfl⟩ := ht
    refine ⟨fun e => absurd (List.isEmpty_iff.2 e) hr, fun i hi => ?_⟩
    obtain ⟨c', hc', h1⟩ := PI hall i hi
    simp only [Option.bind_eq_some_iff, Option.map_eq_some_iff] at h1
    obtain ⟨ii, hii, c, hcov, rfl⟩ := h1
    obtain ⟨oi, hoi, hlo, h2, h3⟩ := step (fun ic s => ih _ ic s) hc hi hii hcov (SM hc' h)
    refine ⟨ii, oi, hii, hoi, ?_⟩
    cases hq : ii.op.quiet with
    | true =>
     obtain ⟨x, hy, hk⟩ := h2 hq
     unfold Hr
     rw [if_pos hq]
     exact ⟨x, hy.1, hk⟩
    | false => exact h3 hq
def MS (P : Program) (nt : Nat) (own : List (Nat × Nat)) (ops : Array Oper) : Option BU :=
 match Du P nt own ops ops.toList with
 | some il => if II ops (Mb ops) then N2 ops il (Mb ops) ops.size (Array.replicate ops.size false) else none
 | none => none

theorem WI.drawn {S : Nat → Prop} {w : World} {μ : Mu} {hp : Hp} (h : WI E S w μ hp) : WI E S { w with drawn := w.drawn + 1 } μ hp :=
 h.step rfl rfl rfl (Nat.le_refl _) (fun _ _ => rfl) (fun _ h => h) (fun _ h => .inl h)

theorem Wv {own : List (Nat × Nat)} {ops : Array Oper} {il : List B6} (hm : P.follows .mixedOrders = true) (hl : Du P nt own ops ops.toList = some il) (hD : II ops (Mb ops) = true) (σ : List Nat) (ho : L0 ops il (Mb ops) σ (Array.replicate ops.size false) = true) (hlen : σ.length = ops.size) : YF P nt ops (σ.filterMap (il[·]?)) := by
 intro E Q id s a w hs hr
 refine wp_region_any hm ?_
 have h1 := Mf (E := E) hD hl σ (Array.replicate ops.size false) s (fun j o hj hl' => by
  have : j < ops.size := (Array.getElem?_eq_some_iff.1 hj).1
  simp [this] at hl') ho hs
 rw [hlen] at h1
 refine Jz hl (Q' := Re E nt Q) (fun F hp a' w' hx hr' => ?_) ops.size _ _ _ a _ h1 ?_
 ·obtain ⟨s', e1, e2, hq⟩ := hx
  subst e1 e2
  exact ⟨s', hq, hr'⟩
 ·obtain ⟨hd, hn, S, μ, hw, hf⟩ := hr
  exact ⟨hd, hn, S, μ, hw.drawn, fun t => (hf t).mono (fun _ h => h) (fun b hb => rfl) (Mu.le.refl _)⟩
theorem Aad {own : List (Nat × Nat)} {ops : Array Oper} {jl : List B6} (hm : P.follows .mixedOrders = true) (h : TE P nt own ops = some jl) : YF P nt ops jl := by
 unfold TE at h
 split at h
 ·rename_i il hl
  split at h
  ·rename_i hD
   split at h
   ·rename_i ho
    cases h
    exact Wv hm hl hD _ ho (by simp)
   ·split at h
    ·rename_i hc
     cases h
     exact Wv hm hl hD _ hc.1 hc.2
    ·cases h
  ·cases h
 ·cases h

theorem Wu {own : List (Nat × Nat)} {ops : Array Oper} {ic : BU} (hm : P.follows .mixedOrders = true) (h : MS P nt own ops = some ic) : AaB P nt ops ic := by
 unfold MS at h
 split at h
 ·rename_i il hl
  split at h
  ·rename_i hD
   intro E Q id s a w hs hr
   refine wp_region_any hm ?_
   have h1 := AbI (E := E) hD hl ops.size (Array.replicate ops.size false) ic s (fun j o hj hl' => by
    have : j < ops.size := (Array.getElem?_eq_some_iff.1 hj).1
    simp [this] at hl') h hs
   refine Jz hl (Q' := Re E nt Q) (fun F hp a' w' hx hr' => ?_) ops.size _ _ _ a _ h1 ?_
   ·obtain ⟨s', e1, e2, hq⟩ := hx
    subst e1 e2
    exact ⟨s', hq, hr'⟩
   ·obtain ⟨hd, hn, S, μ, hw, hf⟩ := hr
    exact ⟨hd, hn, S, μ, hw.drawn, fun t => (hf t).mono (fun _ h => h) (fun b hb => rfl) (Mu.le.refl _)⟩
  ·cases h
 ·cases h

/-! ### A function's abstract code, by the kernel -/
def HD (P : Program) (nt : Nat) (own : List (Nat × Nat)) (gs : List Nat) : Code → Option BU
 | .skip => some .skip
 | .label _ => some .skip
 | .ret => some (if gs.contains 9999 then .OO else .ret)
 | .exit id => some (.exit id)
 | .seq a b => match HD P nt own gs a, HD P nt own gs b with
   | some a, some b => some (.seq a b)
   | _, _ => none
 | .cond c a b => match AB c, HD P nt own gs a, HD P nt own gs b with
   | some c, some a, some b => some (.cond c a b)
   | _, _, _ => none
 | .block id a => (HD P nt own gs a).map (.block id)
 | .loop a => (HD P nt own gs a).map .loop
 | .scope a => (HD P nt own gs a).map .scope
 | .region id ops true => match TE P nt own ops with
   | some il => some (if gs.contains id then .ghost (.draw il) else .draw il)
   | none => match MS P nt own ops with
     | some ic => some (if gs.contains id then .ghost ic else ic)
     | none => none
 | .region id ops false => match Du P nt own ops ops.toList with
   | some il => some (if gs.contains id then .ghost (.region il) else .region il)
   | none => none
 | _ => none
theorem Hc {own : List (Nat × Nat)} {gs : List Nat} (hm : P.follows .mixedOrders = true) : ∀ {c : Code} {ic : BU}, HD P nt own gs c = some ic → Low P nt own c ic
 | .skip, ic, h => by simp only [HD] at h; cases h; exact .skip
 | .label l, ic, h => by simp only [HD] at h; cases h; exact .label l
 | .ret, ic, h => by
  simp only [HD, Option.some.injEq] at h
  subst h
  split
  ·exact .OO
  ·exact .ret
 | .exit id, ic, h => by simp only [HD] at h; cases h; exact .exit id
 | .seq a b, ic, h => by
  simp only [HD] at h
  split at h
  ·rename_i x y h1 h2; cases h; exact .seq (Hc hm h1) (Hc hm h2)
  ·cases h
 | .cond c a b, ic, h => by
  simp only [HD] at h
  split at h
  ·rename_i x y z h0 h1 h2; cases h; exact .cond h0 (Hc hm h1) (Hc hm h2)
  ·cases h
 | .block id a, ic, h => by
  simp only [HD, Option.map_eq_some_iff] at h
  obtain ⟨x, h1, rfl⟩ := h
  exact .block id (Hc hm h1)
 | .loop a, ic, h => by
  simp only [HD, Option.map_eq_some_iff] at h
  obtain ⟨x, h1, rfl⟩ := h
  exact .loop (Hc hm h1)
 | .scope a, ic, h => by
  simp only [HD, Option.map_eq_some_iff] at h
  obtain ⟨x, h1, rfl⟩ := h
  exact .scope (Hc hm h1)
 | .region id ops false, ic, h => by
  simp only [HD] at h
  split at h
  ·rename_i il h1
   cases h
   split
   ·exact .ghost (.region id ops il h1)
   ·exact .region id ops il h1
  ·cases h
 | .region id ops true, ic, h => by
  simp only [HD] at h
  split at h
  ·rename_i il h1
   cases h
   split
   ·exact .ghost (.draw id ops il (Aad hm h1))
   ·exact .draw id ops il (Aad hm h1)
  ·split at h
   ·rename_i ic' h1
    cases h
    split
    ·exact .ghost (.Adi id ops ic' (Wu hm h1))
    ·exact .Adi id ops ic' (Wu hm h1)
   ·cases h
 | .rangeFunc .., ic, h => by simp only [HD] at h; cases h
 | .goto l, ic, h => by simp only [HD] at h; cases h
 | .refuse w, ic, h => by simp only [HD] at h; cases h

def XZ (P : Program) (own : List (Nat × Nat)) (gs : List Nat) (n : Nat) (fn : Func) : Option (BU × List Gb) :=
 match fn.body with
 | some c => match HD P fn.ntmps own gs c, JH P fn.results.toList with
   | some ic, some rs => if n ≤ fn.ntmps then some (ic, rs) else none
   | _, _ => none
 | none => none
theorem Afh {own : List (Nat × Nat)} {gs : List Nat} {f : FuncId} {fn : Func} {ic : BU} {rs : List Gb} {args : List AV} {res : AV} (hm : P.follows .mixedOrders = true) (hf : P.funcs[f]? = some fn) (hcall : DJ P f = true) (hl : XZ P own gs args.length fn = some (ic, rs))
  (hcl : ∀ x ∈ args, Ae x) (hcr : Ae res) (h : awp P ic (Ret rs res) ⟨entry 0 args, []⟩) : Ak P f args res := by
 unfold XZ at hl
 split at hl
 ·rename_i c hb
  split at hl
  ·rename_i ic' rs' h1 h2
   split at hl
   ·rename_i hlen
    cases hl
    exact AbF hf hb hcall (Hc hm h1) h2 hlen hcl hcr h
   ·cases hl
  ·cases hl
 ·cases hl
theorem Afg {own : List (Nat × Nat)} {gs : List Nat} {f : FuncId} {fn : Func} {ic : BU} {rs : List Gb} {args : List AV} {hp : Hp} {Post : AV → Hp → Prop} (hm : P.follows .mixedOrders = true) (hf : P.funcs[f]? = some fn) (hcall : DJ P f = true) (hl : XZ P own gs args.length fn = some (ic, rs))
  (h : awp P ic (AdH rs Post) ⟨entry 0 args, hp⟩) : AU P f args hp Post := by
 unfold XZ at hl
 split at hl
 ·rename_i c hb
  split at hl
  ·rename_i ic' rs' h1 h2
   split at hl
   ·rename_i hlen
    cases hl
    exact AbE hf hb hcall (Hc hm h1) h2 hlen h
   ·cases hl
  ·cases hl
 ·cases hl
def thin (T : Tables) : Program := { toTables := T, funcs := Array.replicate 400 { (default : Func) with body := some .skip } }
def K2 (P : Program) (nt : Nat) (own : List (Nat × Nat)) (gs : List Nat) (s : List Nat) : Code → Option BU
 | .skip => some .skip
 | .label _ => some .skip
 | .ret => some (if gs.contains 9999 then .OO else .ret)
 | .exit id => some (.exit id)
 | .seq a b => match K2 P nt own gs s a, K2 P nt own gs s b with
   | some a, some b => some (.seq a b)
   | _, _ => none
 | .cond c a b => match AB c, K2 P nt own gs s a, K2 P nt own gs s b with
   | some c, some a, some b => some (.cond c a b)
   | _, _, _ => none
 | .block id a => (K2 P nt own gs s a).map (.block id)
 | .loop a => (K2 P nt own gs s a).map .loop
 | .scope a => (K2 P nt own gs s a).map .scope
 | .region id ops true => if s.contains (id + 10000) then (MS P nt own ops).map fun ic => if gs.contains id then .ghost ic else ic
   else (Du P nt own ops ops.toList).map fun il => if gs.contains id then .ghost (.draw (if s.contains id then (Jx il).filterMap (il[·]?) else il)) else .draw (if s.contains id then (Jx il).filterMap (il[·]?) else il)
 | .region id ops false => (Du P nt own ops ops.toList).map fun il => if gs.contains id then .ghost (.region il) else .region il
 | _ => none
def Afd (P : Program) (own : List (Nat × Nat)) (gs s : List Nat) (fn : Func) : Option (BU × List Gb) :=
 match fn.body with
 | some c => match K2 P fn.ntmps own gs s c, JH P fn.results.toList with
   | some ic, some rs => some (ic, rs)
   | _, _ => none
 | none => none
theorem Ah {P : Program} {own : List (Nat × Nat)} {gs : List Nat} {n : Nat} {fn : Func} {x : BU × List Gb} (s : List Nat) (T : Tables) (_ : Afd (thin T) own gs s fn = some x) (h : XZ P own gs n fn = some x) : XZ P own gs n fn = some x := h
abbrev Ir (P : Program) (k : FuncId) (own : List (Nat × Nat)) (gs : List Nat) (n : Nat) := {x : BU × List Gb // ∃ fn, P.funcs[k]? = some fn ∧ P.follows .mixedOrders = true ∧ DJ P k = true ∧ XZ P own gs n fn = some x}
theorem Ir.F {P : Program} {k : FuncId} {own : List (Nat × Nat)} {gs : List Nat} {n : Nat} (x : Ir P k own gs n) {args : List AV} {res : AV} (hn : args.length = n) (h1 : ∀ x ∈ args, Ae x) (h2 : Ae res) (h : awp P x.1.1 (Ret x.1.2 res) ⟨entry 0 args, []⟩) : Ak P k args res := by
 obtain ⟨_, fn, hf, hm, hc, hl⟩ := x
 exact Afh hm hf hc (by rw [hn]; exact hl) h1 h2 h
theorem Ir.H {P : Program} {k : FuncId} {own : List (Nat × Nat)} {gs : List Nat} {n : Nat} (x : Ir P k own gs n) {args : List AV} {hp : Hp} {Post : AV → Hp → Prop} (hn : args.length = n) (h : awp P x.1.1 (AdH x.1.2 Post) ⟨entry 0 args, hp⟩) : AU P k args hp Post := by
 obtain ⟨_, fn, hf, hm, hc, hl⟩ := x
 exact Afg hm hf hc (by rw [hn]; exact hl) h
end

end Go.Proofs.YtppjinmlfcokaaaGreat.Av
