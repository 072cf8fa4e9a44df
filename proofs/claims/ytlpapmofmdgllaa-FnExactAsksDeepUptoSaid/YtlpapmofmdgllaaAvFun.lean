/-
  FUNCTIONS: the contract of a function out of its abstract code; ghost steps. Conditions: none.
-/
import Derived.Test.YtlpapmofmdgllaaAvRun
set_option linter.unusedVariables false
set_option linter.unusedSimpArgs false
namespace Go.Proofs.Ytlpapmofmdgllaa.Av
open Go.RowKit

inductive IRes where
  | t (i : Nat)
  | c (agg : Bool) (n i : Nat)
def lowRes (P : Program) : ResultVar → Option IRes
  | .tmp i => some (.t i)
  | .cell i ty => match tyAgg P ty, tySize P ty with
      | some g, some n => some (.c g n i)
      | _, _ => none
def lowResL (P : Program) : List ResultVar → Option (List IRes)
  | [] => some []
  | r :: rs => match lowRes P r, lowResL P rs with
      | some x, some xs => some (x :: xs)
      | _, _ => none
def aRes (hp : Hp) (fr : Nat → AV) (r : IRes) (K : AV → Prop) : Prop :=
  match r with
  | .t i => K (fr i)
  | .c g n i => aLoad hp g n (fr i) K
def aResults (hp : Hp) (fr : Nat → AV) : List IRes → (List AV → Prop) → Prop
  | [], K => K []
  | r :: rs, K => aRes hp fr r fun x => aResults hp fr rs fun xs => K (x :: xs)
/-- what is returned -/
def finR (hp : Hp) : List AV → AV
  | [x] => x.pur hp
  | xs => .tup (xs.map (AV.pur hp))
def entry : Nat → List AV → List (Nat × AV)
  | _, [] => []
  | i, x :: xs => (i, x) :: entry (i + 1) xs

/-- behind the function's code -/
def Ret (rs : List IRes) (res : AV) : Exit → St → Prop
  | .normal, s => aResults s.hp (fget s.fr) rs fun xs => finR s.hp xs = res
  | .ret, s => aResults s.hp (fget s.fr) rs fun xs => finR s.hp xs = res
  | _, _ => False

section
variable {E : Env}
def frLe (s : List (Nat × AV)) : List (Nat × AV) → Prop
  | [] => True
  | (i, x) :: r => fget s i = x ∧ frLe s r
def hpLe (s : Hp) : Hp → Prop
  | [] => True
  | (k, b) :: r => hget s k = some b ∧ hpLe s r
theorem frLe_get {s : List (Nat × AV)} : ∀ {t : List (Nat × AV)}, frLe s t → ∀ i, fget t i = .top ∨ fget t i = fget s i
  | [], _, i => .inl rfl
  | (j, x) :: r, h, i => by
    simp only [fget]
    split
    · rename_i e; subst e; exact .inr h.1.symm
    · exact frLe_get h.2 i
theorem hpLe_get {s : Hp} : ∀ {t : Hp}, hpLe s t → ∀ k b, hget t k = some b → hget s k = some b
  | [], _, k, b, h => by cases h
  | (j, x) :: r, h, k, b, hk => by
    simp only [hget] at hk
    split at hk
    · rename_i e; subst e; cases hk; exact h.1
    · exact hpLe_get h.2 k b hk
theorem WI.drop {S : Nat → Prop} {w : World} {μ : Mu} {hp hp' : Hp} (h : WI E S w μ hp) (hh : ∀ k b, hget hp' k = some b → hget hp k = some b) : WI E S w μ hp' :=
  ⟨h.ext, h.lt, h.base, h.new, h.fresh, fun k bx hk => h.box k bx (hh k bx hk), fun k k' bx bx' B B' b hk hk' => h.apart k k' bx bx' B B' b (hh _ _ hk) (hh _ _ hk'), h.le⟩
end
/-- behind the code of a function that is handed own rows: what it returns, what it leaves -/
def RetH (rs : List IRes) (Post : AV → Hp → Prop) : Exit → St → Prop
  | .normal, s => Goes s fun t => aResults t.hp (fget t.fr) rs fun xs => ∃ hp', hpLe t.hp hp' ∧ Post (finR t.hp xs) hp'
  | .ret, s => Goes s fun t => aResults t.hp (fget t.fr) rs fun xs => ∃ hp', hpLe t.hp hp' ∧ Post (finR t.hp xs) hp'
  | _, _ => False

theorem entry_get : ∀ (xs : List AV) (k i : Nat) (x : AV), fget (entry k xs) i = x → x = .top ∨ (k ≤ i ∧ xs[i - k]? = some x)
  | [], k, i, x, h => .inl h.symm
  | y :: ys, k, i, x, h => by
    simp only [entry, fget] at h
    split at h
    · rename_i hk; subst hk; right; simp [h]
    · rename_i hk
      rcases entry_get ys (k + 1) i x h with h | ⟨h1, h2⟩
      · exact .inl h
      · right; exact ⟨by omega, by rw [show i - k = (i - (k + 1)) + 1 by omega]; simpa using h2⟩

theorem load_any {P : Program} {E : Env} {S : Nat → Prop} {w : World} {μ : Mu} {hp : Hp} {t : TypeId} {g : Bool} {n : Nat} {x : AV} {v : Value} {K : AV → Prop} (hg : tyAgg P t = some g) (hn : tySize P t = some n) (hw : WI E S w μ hp) (hv : VR S w μ v x) (h : aLoad hp g n x K) :
    ∃ b p u y, v = .pointer (some ⟨b, p, none⟩) ∧ (loadVar t ⟨b, p, none⟩).run P w = .ok u w ∧ VR S w μ u y ∧ K y := by
  have fin : ∀ (cs : List AV) (off : Nat), aPart g cs off n K → (∃ b p, v = .pointer (some ⟨b, p, none⟩) ∧ CellsAt S w μ b p (cs.drop off)) → ∃ b p u y, v = .pointer (some ⟨b, p, none⟩) ∧ (loadVar t ⟨b, p, none⟩).run P w = .ok u w ∧ VR S w μ u y ∧ K y := by
    rintro cs off hk ⟨b, p, h1, h2⟩
    unfold aPart at hk
    cases g with
    | true =>
      obtain ⟨u, h3, h4⟩ := (run_loadVar_av (P := P) hg hn h2).1 rfl (by simp; omega)
      exact ⟨b, p, u, _, h1, h3, h4, hk.2⟩
    | false =>
      obtain ⟨u, h3, h4⟩ := (run_loadVar_av (P := P) hg hn h2).2 rfl (cs.getD off .top) (by rw [getD_get hk.1]; simp [hk.1])
      exact ⟨b, p, u, _, h1, h3, h4, hk.2⟩
  unfold aLoad at h
  split at h
  · obtain ⟨b, p, hb⟩ := hv.obj_form
    rw [hb] at hv
    exact fin _ 0 h ⟨b, p, hb, by simpa using hv.cellsAt.1⟩
  · rename_i k ver i off
    split at h
    · rename_i bx hk
      obtain ⟨⟨hver, hi⟩, h⟩ := h
      refine fin _ off h ?_
      cases hv with
      | ptr _ _ _ _ b cap esz hμ =>
        obtain ⟨B, hB, hz, hh⟩ := hw.box k bx hk
        rw [hver, hμ] at hB
        cases hB
        obtain ⟨a1, a2, a3, cur, a4, a5, a6, a7, a8⟩ := hh
        refine ⟨b, i * esz + off, rfl, ?_⟩
        rw [getD_get hi]
        exact (a8.at_ a4 hi).drop off
    · exact h.elim
  · exact h.elim

section
variable {P : Program} {E : Env}

theorem run_results {S : Nat → Prop} {w : World} {μ : Mu} {hp : Hp} {tmps : Array Value} {fr : Nat → AV} (hw : WI E S w μ hp) (hf : ∀ t, VR S w μ (tmps.getD t Go.undef) (fr t)) : ∀ {l : List ResultVar} {rs : List IRes} {K : List AV → Prop}, lowResL P l = some rs → aResults hp fr rs K →
    ∃ vs xs, (l.mapM (fun | .tmp t => pure (tmps.getD t Go.undef) | .cell a t => do loadVar t (← asAddr (tmps.getD a Go.undef)) : ResultVar → Sem Value)).run P w = .ok vs w ∧ VRs S w μ vs xs ∧ K xs
  | [], rs, K, hl, h => by cases hl; exact ⟨[], [], rfl, VRs.nil, h⟩
  | r :: l, rs, K, hl, h => by
    unfold lowResL at hl
    split at hl
    · rename_i ir irs h1 h2
      cases hl
      unfold aResults at h
      have step : ∃ v x, ((fun | .tmp t => pure (tmps.getD t Go.undef) | .cell a t => do loadVar t (← asAddr (tmps.getD a Go.undef)) : ResultVar → Sem Value) r).run P w = .ok v w ∧ VR S w μ v x ∧ aResults hp fr irs fun xs => K (x :: xs) := by
        unfold lowRes at h1
        split at h1
        · rename_i i
          cases h1
          exact ⟨_, _, rfl, hf i, h⟩
        · rename_i i ty
          split at h1
          · rename_i g n hg hn
            cases h1
            obtain ⟨b, p, u, y, e1, e2, e3, e4⟩ := load_any (P := P) hg hn hw (hf i) h
            exact ⟨u, y, by simp only [e1, asAddr, Sem.run_bind, Sem.run_pure, Result.andThen_ok]; exact e2, e3, e4⟩
          · cases h1
      obtain ⟨v, x, hr, hv, h⟩ := step
      obtain ⟨vs, xs, hrs, hvs, hK⟩ := run_results hw hf h2 h
      refine ⟨v :: vs, x :: xs, ?_, VRs.cons hv hvs, hK⟩
      rw [List.mapM_cons]
      simp only [Sem.run_bind, hr, Result.andThen_ok, hrs, Sem.run_pure]
    · cases hl

theorem callsF_of {own : List (Nat × Nat)} {f : FuncId} {fn : Func} {c : Code} {ic : ICode} {rs : List IRes} {args : List AV} {res : AV} (hf : P.funcs[f]? = some fn) (hb : fn.body = some c) (hcall : callable P f = true) (hlow : Low P fn.ntmps own c ic)
    (hres : lowResL P fn.results.toList = some rs) (hlen : args.length ≤ fn.ntmps) (hcl : ∀ x ∈ args, AvPure x) (hcr : AvPure res) (h : awp P ic (Ret rs res) ⟨entry 0 args, []⟩) : CallsF P f args res := by
  refine ⟨hcall, hcl, fun S w vs hS hv => ?_⟩
  have hvl : vs.length = args.length := hv.1
  let E : Env := ⟨w, S, fun _ => False, mu0⟩
  have hW : WI E S w mu0 [] := ⟨⟨rfl, rfl, rfl, Nat.le_refl _, fun _ _ _ => rfl⟩, hS, fun _ h => h, fun _ h => .inl h, ⟨0, fun _ _ _ => rfl⟩, fun k bx h => (by cases h), fun k k' bx bx' B B' b h => (by cases h), Mu.le.refl _⟩
  have hR : Rep E fn.ntmps ⟨entry 0 args, []⟩ { tmps := vs.toArray ++ Array.replicate (fn.ntmps - vs.toArray.size) Go.undef, defers := [] } w := by
    refine ⟨rfl, by simp; omega, S, mu0, hW, fun t => ?_⟩
    show VR S w mu0 _ (fget (entry 0 args) t)
    generalize hx : fget (entry 0 args) t = x
    rcases entry_get args 0 t x hx with h | ⟨_, h⟩
    · subst h; exact .top _
    · simp only [Nat.sub_zero] at h
      have ht : t < vs.length := by rw [hvl]; exact (List.getElem?_eq_some_iff.1 h).1
      refine hv.2 t _ x ?_ h
      simp only [Array.getD_eq_getD_getElem?]
      rw [Array.getElem?_append_left (by simpa using ht)]
      simp [ht]
  have key := awp_sound hlow h hR
  refine calls_of_wp hf hb (wp_mono key fun e a' w' ⟨s, hq, hr⟩ => ?_)
  have fin : aResults s.hp (fget s.fr) rs (fun xs => finR s.hp xs = res) → a'.defers = [] ∧ ∃ v, (results fn a'.tmps).run P w' = .ok v w' ∧ ∃ v', Ending.returned v = Ending.returned v' ∧ VR (fun b => S b ∨ (w.heap.size ≤ b ∧ b < w'.heap.size)) w' mu0 v' res ∧ Below w.heap.size w w' := by
    intro hq
    obtain ⟨hd, hn, S', μ', hw', hf'⟩ := hr
    obtain ⟨us, xs, h1, h2, h3⟩ := run_results (P := P) hw' hf' hres hq
    have hrun : (results fn a'.tmps).run P w' = .ok (if h : us.toArray.size = 1 then us.toArray[0] else .tuple us.toArray) w' := by
      have : fn.results = fn.results.toList.toArray := by simp
      unfold results
      rw [this, List.mapM_toArray, map_eq_pure_bind]
      simp only [Sem.run_bind]
      refine (congrArg (fun r => (Result.andThen r _).andThen _) h1).trans ?_
      simp only [Result.andThen_ok, Sem.run_pure]
    refine ⟨hd, _, hrun, _, rfl, ?_, ⟨hw'.ext.os, hw'.ext.tape, hw'.ext.output, hw'.ext.size, fun b hb => hw'.ext.block b hb (fun h => h)⟩⟩
    have hvr : VR S' w' μ' (if h : us.toArray.size = 1 then us.toArray[0] else .tuple us.toArray) res := by
      rw [← h3]
      by_cases h4 : us.length = 1
      · obtain ⟨u, rfl⟩ := List.length_eq_one_iff.1 h4
        obtain ⟨x, rfl⟩ := List.length_eq_one_iff.1 (h2.1 ▸ h4)
        rw [dif_pos (by rfl)]
        exact (h2.2 0 u x rfl rfl).pur hw'
      · have hx : finR s.hp xs = .tup (xs.map (AV.pur s.hp)) := by
          unfold finR
          split
          · rename_i x; exact absurd h2.1 (by simpa using h4)
          · rfl
        rw [dif_neg (by simpa using h4), hx]
        refine .tup _ _ (by simpa using h2.1) (fun i v x p q => ?_)
        simp only [List.getElem?_map, Option.map_eq_some_iff] at q
        obtain ⟨y, hy, rfl⟩ := q
        exact (h2.2 i v y (by simpa using p) hy).pur hw'
    refine (hcr _ _ _ _ hvr).mono (fun b hb => ?_) (Same.refl _ _) (Mu.le.refl _)
    rcases hw'.new b hb with h | h | h
    · exact .inl h
    · exact .inr ⟨h, hw'.lt b hb⟩
    · exact h.elim
  cases e <;> first | exact fin hq | exact hq.elim

theorem callsH_of {own : List (Nat × Nat)} {f : FuncId} {fn : Func} {c : Code} {ic : ICode} {rs : List IRes} {args : List AV} {hp : Hp} {Post : AV → Hp → Prop} (hf : P.funcs[f]? = some fn) (hb : fn.body = some c) (hcall : callable P f = true) (hlow : Low P fn.ntmps own c ic)
    (hres : lowResL P fn.results.toList = some rs) (hlen : args.length ≤ fn.ntmps) (h : awp P ic (RetH rs Post) ⟨entry 0 args, hp⟩) : CallsH P f args hp Post := by
  refine ⟨hcall, fun S w μ vs hW hv => ?_⟩
  have hvl : vs.length = args.length := hv.1
  have hR : Rep ⟨w, S, ownOf μ hp, μ⟩ fn.ntmps ⟨entry 0 args, hp⟩ { tmps := vs.toArray ++ Array.replicate (fn.ntmps - vs.toArray.size) Go.undef, defers := [] } w := by
    refine ⟨rfl, by simp; omega, S, μ, hW, fun t => ?_⟩
    show VR S w μ _ (fget (entry 0 args) t)
    generalize hx : fget (entry 0 args) t = x
    rcases entry_get args 0 t x hx with h | ⟨_, h⟩
    · subst h; exact .top _
    · simp only [Nat.sub_zero] at h
      have ht : t < vs.length := by rw [hvl]; exact (List.getElem?_eq_some_iff.1 h).1
      refine hv.2 t _ x ?_ h
      simp only [Array.getD_eq_getD_getElem?]
      rw [Array.getElem?_append_left (by simpa using ht)]
      simp [ht]
  have key := awp_sound hlow h hR
  refine calls_of_wp hf hb (wp_mono key fun e a' w' ⟨s, hq, hr⟩ => ?_)
  have fin : (Goes s fun t => aResults t.hp (fget t.fr) rs fun xs => ∃ hp', hpLe t.hp hp' ∧ Post (finR t.hp xs) hp') → a'.defers = [] ∧ ∃ v, (results fn a'.tmps).run P w' = .ok v w' ∧ ∃ v' r hp' S' μ', Ending.returned v = Ending.returned v' ∧ Post r hp' ∧ VR S' w' μ' v' r ∧ WI ⟨w, S, ownOf μ hp, μ⟩ S' w' μ' hp' := by
    intro hq
    obtain ⟨t, hq, hr⟩ := hq.run _ _ _ _ hr
    obtain ⟨hd, hn, S', μ', hw', hf'⟩ := hr
    obtain ⟨us, xs, h1, h2, hp', h3, h4⟩ := run_results (P := P) hw' hf' hres hq
    have hrun : (results fn a'.tmps).run P w' = .ok (if h : us.toArray.size = 1 then us.toArray[0] else .tuple us.toArray) w' := by
      have : fn.results = fn.results.toList.toArray := by simp
      unfold results
      rw [this, List.mapM_toArray, map_eq_pure_bind]
      simp only [Sem.run_bind]
      refine (congrArg (fun r => (Result.andThen r _).andThen _) h1).trans ?_
      simp only [Result.andThen_ok, Sem.run_pure]
    refine ⟨hd, _, hrun, _, _, hp', S', μ', rfl, h4, ?_, hw'.drop (hpLe_get h3)⟩
    by_cases h9 : us.length = 1
    · obtain ⟨u, rfl⟩ := List.length_eq_one_iff.1 h9
      obtain ⟨x, rfl⟩ := List.length_eq_one_iff.1 (h2.1 ▸ h9)
      rw [dif_pos (by rfl)]
      exact (h2.2 0 u x rfl rfl).pur hw'
    · have hx : finR t.hp xs = .tup (xs.map (AV.pur t.hp)) := by
        unfold finR
        split
        · rename_i x; exact absurd h2.1 (by simpa using h9)
        · rfl
      rw [dif_neg (by simpa using h9), hx]
      refine .tup _ _ (by simpa using h2.1) (fun i v x p q => ?_)
      simp only [List.getElem?_map, Option.map_eq_some_iff] at q
      obtain ⟨y, hy, rfl⟩ := q
      exact (h2.2 i v y (by simpa using p) hy).pur hw'
  cases e <;> first | exact fin hq | exact hq.elim

/-! ### Ghost steps -/
/-- less is known -/
theorem Goes.le {s t : St} {T : St → Prop} (hT : T t) (h1 : frLe s.fr t.fr) (h2 : hpLe s.hp t.hp) : Goes s T := by
  refine ⟨?_⟩
  rintro E nt a w ⟨hd, hn, S, μ, hw, hf⟩
  refine ⟨t, hT, hd, hn, S, μ, hw.drop (hpLe_get h2), fun i => ?_⟩
  rcases frLe_get h1 i with h | h
  · rw [h]; exact .top _
  · rw [h]; exact hf i

/-- an own row may from here on be read for good -/
theorem Goes.frz {s : St} {T : St → Prop} (k : Nat) (h : Goes ⟨s.fr, hfrz s.hp k⟩ T) : Goes s T := by
  refine ⟨?_⟩
  rintro E nt a w ⟨hd, hn, S, μ, hw, hf⟩
  cases hk : hget s.hp k with
  | none =>
    refine h.run E nt a w ⟨hd, hn, S, μ, ?_, hf⟩
    unfold hfrz; rw [hk]; exact hw
  | some bx =>
    obtain ⟨S', h1, h2⟩ := hw.frz hk
    exact h.run E nt a w ⟨hd, hn, S', μ, h1, fun t => (hf t).mono h2 (Same.refl _ _) (Mu.le.refl _)⟩
/-- a slot's value is told by what may be read for good -/
theorem Goes.pur {s : St} {T : St → Prop} (i : Nat) (h : Goes ⟨(i, (fget s.fr i).pur s.hp) :: s.fr, s.hp⟩ T) : Goes s T := by
  refine ⟨?_⟩
  rintro E nt a w ⟨hd, hn, S, μ, hw, hf⟩
  refine h.run E nt a w ⟨hd, hn, S, μ, hw, fun t => ?_⟩
  simp only [fget]
  split
  · rename_i e; subst e; exact (hf i).pur hw
  · exact hf t
/-- nil is an own row without elements -/
theorem Goes.adopt {s : St} {T : St → Prop} (i k : Nat) (ty : TypeId) (esz : Nat) (hi : fget s.fr i = .nils) (h : ∀ v, Goes ⟨(i, .row k v 0) :: s.fr, (k, ⟨v, false, ty, esz, []⟩) :: s.hp⟩ T) : Goes s T := by
  refine ⟨?_⟩
  rintro E nt a w ⟨hd, hn, S, μ, hw, hf⟩
  obtain ⟨N, hN⟩ := hw.fresh
  have hle : Mu.le μ (μ.put k N ⟨none, 0, esz⟩) := Mu.le_put (hN k N (Nat.le_refl _))
  have hget' : ∀ j, hget ((k, (⟨N, false, ty, esz, []⟩ : Box)) :: s.hp) j = if k = j then some ⟨N, false, ty, esz, []⟩ else hget s.hp j := fun j => rfl
  have hold : ∀ j bj, hget s.hp j = some bj → ∀ B', (μ.put k N ⟨none, 0, esz⟩) j bj.ver = some B' → μ j bj.ver = some B' := fun j bj hj B' hB' => by
    obtain ⟨B0, h0, _⟩ := hw.box j bj hj
    have := hle _ _ _ h0
    rw [this] at hB'; cases hB'; exact h0
  refine (h N).run E nt a w ⟨hd, hn, S, μ.put k N ⟨none, 0, esz⟩, ⟨hw.ext, hw.lt, hw.base, hw.new, Mu.put_fresh hw.fresh, fun j bj hj => ?_, ?_, hw.le.trans hle⟩, fun t => ?_⟩
  · rw [hget'] at hj
    by_cases hkj : k = j
    · rw [if_pos hkj] at hj; cases hj; subst hkj
      exact ⟨_, Mu.put_self _ _ _ _, rfl, rfl⟩
    · rw [if_neg hkj] at hj
      obtain ⟨B0, h0, hz0, hh⟩ := hw.box j bj hj
      refine ⟨B0, hle _ _ _ h0, hz0, ?_⟩
      cases hbl : B0.blk with
      | none => rw [hbl] at hh; exact hh
      | some b =>
        rw [hbl] at hh
        obtain ⟨a1, a2, a3, cu, a4, a5, a6, a7, a8⟩ := hh
        exact ⟨a1, a2, a3, cu, a4, a5, a6, a7, a8.mono (fun _ h => h) (Same.refl _ _) hle⟩
  · intro j j' bj bj' Bj Bj' b hj hj' hne hf1 hf2 hBj hBj' hbl
    rw [hget'] at hj hj'
    by_cases hkj : k = j
    · rw [if_pos hkj] at hj; cases hj; subst hkj
      rw [Mu.put_self] at hBj; cases hBj; cases hbl
    · rw [if_neg hkj] at hj
      by_cases hkj' : k = j'
      · rw [if_pos hkj'] at hj'; cases hj'; subst hkj'
        rw [Mu.put_self] at hBj'; cases hBj'; simp
      · rw [if_neg hkj'] at hj'
        exact hw.apart j j' bj bj' Bj Bj' b hj hj' hne hf1 hf2 (hold j bj hj _ hBj) (hold j' bj' hj' _ hBj') hbl
  · simp only [fget]
    split
    · rename_i e
      subst e
      have := hf i
      rw [hi] at this
      generalize a.tmps.getD i Go.undef = v at this
      cases this
      exact .row0 k N 0 esz (Mu.put_self _ _ _ _)
    · exact (hf t).mono (fun _ h => h) (Same.refl _ _) hle
end

end Go.Proofs.Ytlpapmofmdgllaa.Av
