/-
 CALLS THAT ARE HANDED THE WHOLE RUN: two boxes and the references' rows. Conditions: none.
-/
import Derived.Test.YtjbcnilllfaipaaGreatYEvN
import Derived.Test.YtjbcnilllfaipaaGreatYAvOwn
import Derived.Test.YtjbcnilllfaipaaGreatYEvE
import Derived.Test.YtjbcnilllfaipaaGreatYJ32
set_option linter.unusedVariables false
set_option linter.unusedSimpArgs false
namespace Go.Proofs.YtjbcnilllfaipaaGreat
open Go.RowKit Go.Proofs.YtjbcnilllfaipaaGreat.Av Go.Proofs.YtjbcnilllfaipaaGreat.Ml
open Go.Proofs.YtjbcnilllfaipaaGreat.Av.AVal (av)

theorem Ky (hs : List Nat) : ∀ (hp : Hp) (i : Nat), i ∉ hs → Aw (BN hs hp) i = Aw hp i
 | [], i, _ => rfl
 | (j, b) :: r, i, h => by
  rw [I6]
  by_cases hc : hs.contains j = true
  ·rw [if_pos hc, Ky hs r i h, D5]
   rintro rfl
   exact h (List.contains_iff_mem.1 hc)
  ·rw [if_neg hc]
   simp only [Aw]
   split
   ·rfl
   ·exact Ky hs r i h
def Z4 (T : Hp) : Prop := ∀ p ∈ T, 10000 ≤ p.1
theorem Og (j : Nat) : 10000 ≤ RN j := by
 unfold RN sub
 have : 0 < 2 ^ j * (2 * 70 + 1) := Nat.mul_pos (Nat.pow_pos (by decide)) (by decide)
 omega
theorem R9 {i j : Nat} (h : RN i = RN j) : i = j := by
 unfold RN sub at h
 exact (X2 i j 70 70 (by omega)).1
theorem Oh : ∀ {vs : List Nat} {xs : List AV} {j : Nat} {p : Nat × Box}, p ∈ Co j vs xs → ∃ i, j ≤ i ∧ p.1 = RN i
 | [], xs, j, p, h => by simp [Co] at h
 | v :: vs, [], j, p, h => by simp [Co] at h
 | v :: vs, x :: xs, j, p, h => by
  rw [Co, List.mem_cons] at h
  rcases h with rfl | h
  ·exact ⟨j, Nat.le_refl _, rfl⟩
  ·obtain ⟨i, h1, h2⟩ := Oh h
   exact ⟨i, by omega, h2⟩
theorem BC (j : Nat) (vs : List Nat) (xs : List AV) : Z4 (Co j vs xs) := fun p hp => by
 obtain ⟨i, _, h⟩ := Oh hp
 rw [h]; exact Og i
theorem Bh : ∀ (vs : List Nat) (xs : List AV) (j : Nat), Bg (Co j vs xs) (Co j vs xs)
 | [], xs, j => by simp [Co]; trivial
 | v :: vs, [], j => by simp [Co]; trivial
 | v :: vs, x :: xs, j => by
  rw [Co, Dt]
  refine ⟨Cj, A3.2 fun p hp => ?_⟩
  obtain ⟨i, h1, h2⟩ := Oh hp
  rw [D5 (fun h => by have := R9 (h.trans h2); omega)]
  exact A3.1 (Bh vs xs (j + 1)) p hp
theorem Am {i : Nat} {b : Box} {hp T : Hp} (h : Bg hp T) (hT : Z4 T) (hi : i < 10000) : Bg ((i, b) :: hp) T := A3.2 fun p hq => by
 have := hT p hq
 rw [D5 (by omega)]
 exact A3.1 h p hq
theorem US {T R : Hp} (hT : Z4 T) {i : Nat} (hi : i < 10000) : Aw (T ++ R) i = Aw R i := Dh fun p hp => by have := hT p hp; omega
theorem Cl {P : Go.Program} {f : FuncId} {args : List AV} {hp : Hp} {k : AV → Hp → Prop} {Post : AV → Hp → Prop} (b1 b2 : Box) (T : Hp) (hT : Z4 T) (h : Ay P f args ((60, b1) :: (61, b2) :: T) Post) {kp : DC k}
  (h1 : Aw hp 60 = some b1) (h2 : Aw hp 61 = some b2) (h3 : Bg hp T)
  (hk : ∀ r hp', Post r hp' → ∀ R, (∀ i, i < 10000 → i ≠ 60 → i ≠ 61 → Aw R i = Aw hp i) → k r (hp' ++ R)) : Bd2 (fun k => I9 P f args hp k) k kp :=
 Ae (((60, b1) :: (61, b2) :: T).map Prod.fst) h (Sw (by rw [Dt, Dt]; exact ⟨h1, h2, h3⟩)) fun r hp' hP => hk r hp' hP _ fun i hi h60 h61 => Ky _ _ _ (fun hm => by
  simp only [List.map_cons, List.mem_cons, List.mem_map] at hm
  rcases hm with rfl | rfl | ⟨p, hp, rfl⟩
  ·exact h60 rfl
  ·exact h61 rfl
  ·have := hT p hp; omega)
end Go.Proofs.YtjbcnilllfaipaaGreat
set_option linter.unusedVariables false
set_option linter.unusedSimpArgs false
set_option maxRecDepth 100000
namespace Go.Proofs.YtjbcnilllfaipaaGreat
open Go.RowKit Go.Proofs.YtjbcnilllfaipaaGreat.Av Go.Proofs.YtjbcnilllfaipaaGreat.Ml
open Go.Proofs.YtjbcnilllfaipaaGreat.Av.AVal (av)

def Dz (l : List Node) (vs : List Nat) (m : Nat) (rs : List EV) (xs : List AV) : Prop := vs.length = rs.length ∧ xs.length = rs.length ∧ ∀ j (h1 : j < rs.length) (h2 : j < xs.length), IR l vs m rs[j] xs[j]
theorem Dz.mono {l : List Node} {vs : List Nat} {m m' : Nat} {rs : List EV} {xs : List AV} (h : Dz l vs m rs xs) (hm : m' ≤ m) : Dz l vs m' rs xs := ⟨h.1, h.2.1, fun j h1 h2 => (h.2.2 j h1 h2).mono m' hm⟩
def Di (l : List Node) (vs : List Nat) (b M : Nat) (r : Option EV × ES) (x : AV) (hp' : Hp) : Prop := ∃ (tv : Nat) (n : Int) (us : List Nat) (xs : List AV), hp' = iH b tv M r.2 n (vs ++ us) xs ∧ Dz l (vs ++ us) (M - r.2.steps) r.2.refs xs ∧ (r.2.stop = 2 → n = r.2.n) ∧ ((∃ v, r.1 = some v ∧ IR l (vs ++ us) (M - r.2.steps) v x) ∨ (r.1 = none ∧ x = .Cx))
def EvI (l : List Node) (B M b f : Nat) : Prop := ∀ i e st tv n vs xs xe, Can l B M f i e st → Dz l vs (M - st.steps) st.refs xs → xe.one = true → (∀ hp, xe.AR hp = xe) → (st.steps < M → IRE l vs (M - (st.steps + 1)) e xe) → Ay Tryz.prog 24 [.ptr 60 b 0 0, av (AD l i), xe] (iH b tv M st n vs xs) (Di l vs b M (An l M f i e st))
theorem Bf {T : Hp} (h : Z4 T) (k : Nat) (hk : k < 10000 := by decide) : BN [k] T = T := by
 unfold BN
 refine List.filter_eq_self.2 fun p hp => ?_
 have h1 := h p hp
 have : ¬ p.1 = k := by omega
 simp [this]
theorem BE (b tv M : Nat) (st : ES) (n : Int) (vs : List Nat) (xs : List AV) : iH b tv M st n vs xs = (60, wB b tv M st n) :: (61, ⟨tv, false, 9, 1, st.tr.map av⟩) :: Co 0 vs xs := rfl
set_option maxHeartbeats 8000000 in
theorem ZL {l : List Node} {B M b f : Nat} (hp : Cb l B) (i : Nat) (e : EE) (st : ES) (tv : Nat) (n : Int) (vs : List Nat) (xs : List AV) (xe : AV) (hc : Can l B M (f + 1) i e st) (hR : Dz l vs (M - st.steps) st.refs xs) (xo : xe.one = true) (xp : ∀ hp, xe.AR hp = xe) (hm : M ≤ st.steps) : Ay Tryz.prog 24 [.ptr 60 b 0 0, av (AD l i), xe] (iH b tv M st n vs xs) (Di l vs b M (none, st.out)) := by
 refine Az.H rfl ?_
 rw [B3 (fun i hi k hk => hp.nodes.kids i hi k hk) hc.hi, DU, BE]
 have hT := BC 0 vs xs
 have hTT := Bh vs xs 0
 have hT1 := Bf hT 60
 obtain ⟨T, hTe⟩ : ∃ T, T = Co 0 vs xs := ⟨_, rfl⟩
 rw [← hTe] at hT hTT hT1 ⊢
 unfold wB
 simp +contextual -dsimp (maxSteps := 2000000) only [↓SD, SU, simprocAttr, Az, xo, xp]
 refine Ae [60] (Tb b tv M st n hc.h0 hm) (by simp +contextual -dsimp only [↓SD, SU, simprocAttr, wB]) ?_
 rintro r hp' ⟨rfl, rfl⟩
 unfold wB
 simp +contextual -dsimp (maxSteps := 2000000) only [↓SD, SU, simprocAttr, hT1]
 refine Af.post ((60, wB b tv M st.out n) :: (61, ⟨tv, false, 9, 1, st.tr.map av⟩) :: T) ?_
 unfold wB
 simp +contextual -dsimp (maxSteps := 2000000) only [↓SD, SU, simprocAttr, show st.out.inp = st.inp from rfl, show st.out.tr = st.tr from rfl, show st.out.steps = st.steps from rfl, show st.out.stop = 3 from rfl]
 refine ⟨Am (Am hTT hT (by decide)) hT (by decide), ?_⟩
 refine ⟨tv, n, [], xs, ?_, ?_, fun h => absurd (show (3 : Int) = 2 from h) (by decide), .inr ⟨rfl, rfl⟩⟩
 ·rw [List.append_nil, hTe, BE]; rfl
 ·rw [List.append_nil]; exact hR
end Go.Proofs.YtjbcnilllfaipaaGreat
set_option linter.unusedVariables false
set_option linter.unusedSimpArgs false
set_option maxRecDepth 100000
namespace Go.Proofs.YtjbcnilllfaipaaGreat
open Go.RowKit Go.Proofs.YtjbcnilllfaipaaGreat.Av Go.Proofs.YtjbcnilllfaipaaGreat.Ml
open Go.Proofs.YtjbcnilllfaipaaGreat.Av.AVal (av)

theorem G6 (l : List Node) (i j : Nat) (hj : j < (AF l i).length) : (List.map (av : Tr → AV) (List.map (fun k => AD l k.toNat) (AF l i))).getD j .top = av (AD l (kd l i j)) := by
 have h2 : j < (List.map (fun k : Int => AD l k.toNat) (AF l i)).length := by simpa using hj
 rw [getD_map (av : Tr → AV) _ j .top h2, List.getElem_map]
 unfold kd
 rw [show (AF l i).getD j 0 = (AF l i)[j] by simp [List.getD_eq_getElem?_getD, hj]]
theorem Il {l : List Node} {B : Nat} (hp : Cb l B) {i : Nat} (hi : i < l.length) (ha : 0 ≤ AJ (l.getD i default).kind) : ((AF l i).length : Int) = AJ (l.getD i default).kind := by
 have hgd : l.getD i default = l[i] := by simp [List.getD_eq_getElem?_getD, hi]
 have := MK hp hi (by rw [← hgd]; exact ha)
 rw [hgd]
 simpa [AF, List.getD_eq_getElem?_getD, hi] using this
set_option maxHeartbeats 8000000 in
theorem AcM {l : List Node} {B M b f : Nat} (hp : Cb l B) (hM : M ≤ 100000) (i : Nat) (e : EE) (st : ES) (tv : Nat) (n : Int) (vs : List Nat) (xs : List AV) (xe : AV) (hc : Can l B M (f + 1) i e st) (hR : Dz l vs (M - st.steps) st.refs xs) (xo : xe.one = true) (xp : ∀ hp, xe.AR hp = xe) (he : st.steps < M → IRE l vs (M - (st.steps + 1)) e xe) (hm : ¬ M ≤ st.steps) (hk : (l.getD i default).kind = 1) : Ay Tryz.prog 24 [.ptr 60 b 0 0, av (AD l i), xe] (iH b tv M st n vs xs) (Di l vs b M (An l M (f + 1) i e st)) := by
 refine Az.H rfl ?_
 have hev : An l M (f + 1) i e st = (some (.int (l.getD i default).n), st.tick) := by rw [An, if_neg hm]; simp only [Ho, hk, Int.reduceEq, if_true, if_false] <;> (try (cases DR (l.getD i default).s e <;> rfl))
 rw [hev]
 clear hev
 have he : IRE l vs (M - st.tick.steps) e xe := he (by omega)
 have hN := fun h => Il hp hc.hi h
 have hA := fun j hj => G6 l i j hj
 rw [B3 (fun i hi k hk => hp.nodes.kids i hi k hk) hc.hi, DU, BE]
 have hT := BC 0 vs xs
 have hTT := Bh vs xs 0
 have hT1 := Bf hT 60
 obtain ⟨T, hTe⟩ : ∃ T, T = Co 0 vs xs := ⟨_, rfl⟩
 have hR1 : Dz l vs (M - st.tick.steps) st.tick.refs xs := hR.mono (by show M - (st.steps + 1) ≤ M - st.steps; omega)
 have h0 : st.tick.stop = 0 := hc.h0
 have hend : ∀ (v : EV) (x : AV), IR l vs (M - st.tick.steps) v x → Di l vs b M (some v, st.tick) x ((60, wB b tv M st.tick n) :: (61, ⟨tv, false, 9, 1, st.tick.tr.map av⟩) :: T) := fun v x hx => by
  refine ⟨tv, n, [], xs, ?_, ?_, fun h => absurd (h0.symm.trans h) (by decide), .inl ⟨v, rfl, ?_⟩⟩
  ·rw [List.append_nil, hTe, BE]
  ·rw [List.append_nil]; exact hR1
  ·rw [List.append_nil]; exact hx
 rw [← hTe] at hT hTT hT1 ⊢
 generalize hnd : l.getD i default = nd at *
 generalize hks : List.map (fun k => AD l k.toNat) (AF l i) = ks at *
 have hkl : ks.length = (AF l i).length := by rw [← hks, List.length_map]
 unfold wB
 simp +contextual -dsimp (maxSteps := 2000000) only [↓SD, SU, simprocAttr, Az, xo, xp]
 refine Ae [60] (En b tv M st n hc.h0 hm hM) (by simp +contextual -dsimp only [↓SD, SU, simprocAttr, wB]) ?_
 rintro r hp' ⟨rfl, rfl⟩
 have hst : st.tick.tr = st.tr := rfl
 rw [← hst]
 clear hR hst
 generalize st.tick = st1 at *
 unfold wB
 simp +contextual -dsimp (maxSteps := 2000000) only [↓SD, SU, simprocAttr, hT1, hk]
 refine Af.post ((60, wB b tv M st1 n) :: (61, ⟨tv, false, 9, 1, st1.tr.map av⟩) :: T) ?_
 unfold wB
 simp +contextual -dsimp (maxSteps := 2000000) only [↓SD, SU, simprocAttr, xo, xp]
 refine ⟨Am (Am hTT hT (by decide)) hT (by decide), ?_⟩
 exact hend _ _ (.int _ _)
set_option maxHeartbeats 8000000 in
theorem AcL {l : List Node} {B M b f : Nat} (hp : Cb l B) (hM : M ≤ 100000) (i : Nat) (e : EE) (st : ES) (tv : Nat) (n : Int) (vs : List Nat) (xs : List AV) (xe : AV) (hc : Can l B M (f + 1) i e st) (hR : Dz l vs (M - st.steps) st.refs xs) (xo : xe.one = true) (xp : ∀ hp, xe.AR hp = xe) (he : st.steps < M → IRE l vs (M - (st.steps + 1)) e xe) (hm : ¬ M ≤ st.steps) (hk : (l.getD i default).kind = 2) : Ay Tryz.prog 24 [.ptr 60 b 0 0, av (AD l i), xe] (iH b tv M st n vs xs) (Di l vs b M (An l M (f + 1) i e st)) := by
 refine Az.H rfl ?_
 have hev : An l M (f + 1) i e st = (some (.str (l.getD i default).s), st.tick) := by rw [An, if_neg hm]; simp only [Ho, hk, Int.reduceEq, if_true, if_false] <;> (try (cases DR (l.getD i default).s e <;> rfl))
 rw [hev]
 clear hev
 have he : IRE l vs (M - st.tick.steps) e xe := he (by omega)
 have hN := fun h => Il hp hc.hi h
 have hA := fun j hj => G6 l i j hj
 rw [B3 (fun i hi k hk => hp.nodes.kids i hi k hk) hc.hi, DU, BE]
 have hT := BC 0 vs xs
 have hTT := Bh vs xs 0
 have hT1 := Bf hT 60
 obtain ⟨T, hTe⟩ : ∃ T, T = Co 0 vs xs := ⟨_, rfl⟩
 have hR1 : Dz l vs (M - st.tick.steps) st.tick.refs xs := hR.mono (by show M - (st.steps + 1) ≤ M - st.steps; omega)
 have h0 : st.tick.stop = 0 := hc.h0
 have hend : ∀ (v : EV) (x : AV), IR l vs (M - st.tick.steps) v x → Di l vs b M (some v, st.tick) x ((60, wB b tv M st.tick n) :: (61, ⟨tv, false, 9, 1, st.tick.tr.map av⟩) :: T) := fun v x hx => by
  refine ⟨tv, n, [], xs, ?_, ?_, fun h => absurd (h0.symm.trans h) (by decide), .inl ⟨v, rfl, ?_⟩⟩
  ·rw [List.append_nil, hTe, BE]
  ·rw [List.append_nil]; exact hR1
  ·rw [List.append_nil]; exact hx
 rw [← hTe] at hT hTT hT1 ⊢
 generalize hnd : l.getD i default = nd at *
 generalize hks : List.map (fun k => AD l k.toNat) (AF l i) = ks at *
 have hkl : ks.length = (AF l i).length := by rw [← hks, List.length_map]
 unfold wB
 simp +contextual -dsimp (maxSteps := 2000000) only [↓SD, SU, simprocAttr, Az, xo, xp]
 refine Ae [60] (En b tv M st n hc.h0 hm hM) (by simp +contextual -dsimp only [↓SD, SU, simprocAttr, wB]) ?_
 rintro r hp' ⟨rfl, rfl⟩
 have hst : st.tick.tr = st.tr := rfl
 rw [← hst]
 clear hR hst
 generalize st.tick = st1 at *
 unfold wB
 simp +contextual -dsimp (maxSteps := 2000000) only [↓SD, SU, simprocAttr, hT1, hk]
 refine Af.post ((60, wB b tv M st1 n) :: (61, ⟨tv, false, 9, 1, st1.tr.map av⟩) :: T) ?_
 unfold wB
 simp +contextual -dsimp (maxSteps := 2000000) only [↓SD, SU, simprocAttr, xo, xp]
 refine ⟨Am (Am hTT hT (by decide)) hT (by decide), ?_⟩
 exact hend _ _ (.str _ _)
set_option maxHeartbeats 8000000 in
theorem Abr {l : List Node} {B M b f : Nat} (hp : Cb l B) (hM : M ≤ 100000) (i : Nat) (e : EE) (st : ES) (tv : Nat) (n : Int) (vs : List Nat) (xs : List AV) (xe : AV) (hc : Can l B M (f + 1) i e st) (hR : Dz l vs (M - st.steps) st.refs xs) (xo : xe.one = true) (xp : ∀ hp, xe.AR hp = xe) (he : st.steps < M → IRE l vs (M - (st.steps + 1)) e xe) (hm : ¬ M ≤ st.steps) (hk : (l.getD i default).kind = 12) : Ay Tryz.prog 24 [.ptr 60 b 0 0, av (AD l i), xe] (iH b tv M st n vs xs) (Di l vs b M (An l M (f + 1) i e st)) := by
 refine Az.H rfl ?_
 have hev : An l M (f + 1) i e st = (some .unit, st.tick) := by rw [An, if_neg hm]; simp only [Ho, hk, Int.reduceEq, if_true, if_false] <;> (try (cases DR (l.getD i default).s e <;> rfl))
 rw [hev]
 clear hev
 have he : IRE l vs (M - st.tick.steps) e xe := he (by omega)
 have hN := fun h => Il hp hc.hi h
 have hA := fun j hj => G6 l i j hj
 rw [B3 (fun i hi k hk => hp.nodes.kids i hi k hk) hc.hi, DU, BE]
 have hT := BC 0 vs xs
 have hTT := Bh vs xs 0
 have hT1 := Bf hT 60
 obtain ⟨T, hTe⟩ : ∃ T, T = Co 0 vs xs := ⟨_, rfl⟩
 have hR1 : Dz l vs (M - st.tick.steps) st.tick.refs xs := hR.mono (by show M - (st.steps + 1) ≤ M - st.steps; omega)
 have h0 : st.tick.stop = 0 := hc.h0
 have hend : ∀ (v : EV) (x : AV), IR l vs (M - st.tick.steps) v x → Di l vs b M (some v, st.tick) x ((60, wB b tv M st.tick n) :: (61, ⟨tv, false, 9, 1, st.tick.tr.map av⟩) :: T) := fun v x hx => by
  refine ⟨tv, n, [], xs, ?_, ?_, fun h => absurd (h0.symm.trans h) (by decide), .inl ⟨v, rfl, ?_⟩⟩
  ·rw [List.append_nil, hTe, BE]
  ·rw [List.append_nil]; exact hR1
  ·rw [List.append_nil]; exact hx
 rw [← hTe] at hT hTT hT1 ⊢
 generalize hnd : l.getD i default = nd at *
 generalize hks : List.map (fun k => AD l k.toNat) (AF l i) = ks at *
 have hkl : ks.length = (AF l i).length := by rw [← hks, List.length_map]
 unfold wB
 simp +contextual -dsimp (maxSteps := 2000000) only [↓SD, SU, simprocAttr, Az, xo, xp]
 refine Ae [60] (En b tv M st n hc.h0 hm hM) (by simp +contextual -dsimp only [↓SD, SU, simprocAttr, wB]) ?_
 rintro r hp' ⟨rfl, rfl⟩
 have hst : st.tick.tr = st.tr := rfl
 rw [← hst]
 clear hR hst
 generalize st.tick = st1 at *
 unfold wB
 simp +contextual -dsimp (maxSteps := 2000000) only [↓SD, SU, simprocAttr, hT1, hk]
 refine Af.post ((60, wB b tv M st1 n) :: (61, ⟨tv, false, 9, 1, st1.tr.map av⟩) :: T) ?_
 unfold wB
 simp +contextual -dsimp (maxSteps := 2000000) only [↓SD, SU, simprocAttr, xo, xp]
 refine ⟨Am (Am hTT hT (by decide)) hT (by decide), ?_⟩
 exact hend _ _ (.unit _)
set_option maxHeartbeats 8000000 in
theorem AcI {l : List Node} {B M b f : Nat} (hp : Cb l B) (hM : M ≤ 100000) (i : Nat) (e : EE) (st : ES) (tv : Nat) (n : Int) (vs : List Nat) (xs : List AV) (xe : AV) (hc : Can l B M (f + 1) i e st) (hR : Dz l vs (M - st.steps) st.refs xs) (xo : xe.one = true) (xp : ∀ hp, xe.AR hp = xe) (he : st.steps < M → IRE l vs (M - (st.steps + 1)) e xe) (hm : ¬ M ≤ st.steps) (hk : (l.getD i default).kind = 5) : Ay Tryz.prog 24 [.ptr 60 b 0 0, av (AD l i), xe] (iH b tv M st n vs xs) (Di l vs b M (An l M (f + 1) i e st)) := by
 refine Az.H rfl ?_
 have hev : An l M (f + 1) i e st = (some (.fn i (bs []) e), st.tick) := by rw [An, if_neg hm]; simp only [Ho, hk, Int.reduceEq, if_true, if_false] <;> (try (cases DR (l.getD i default).s e <;> rfl))
 rw [hev]
 clear hev
 have he : IRE l vs (M - st.tick.steps) e xe := he (by omega)
 have hN := fun h => Il hp hc.hi h
 have hA := fun j hj => G6 l i j hj
 rw [B3 (fun i hi k hk => hp.nodes.kids i hi k hk) hc.hi, DU, BE]
 have hT := BC 0 vs xs
 have hTT := Bh vs xs 0
 have hT1 := Bf hT 60
 obtain ⟨T, hTe⟩ : ∃ T, T = Co 0 vs xs := ⟨_, rfl⟩
 have hR1 : Dz l vs (M - st.tick.steps) st.tick.refs xs := hR.mono (by show M - (st.steps + 1) ≤ M - st.steps; omega)
 have h0 : st.tick.stop = 0 := hc.h0
 have hend : ∀ (v : EV) (x : AV), IR l vs (M - st.tick.steps) v x → Di l vs b M (some v, st.tick) x ((60, wB b tv M st.tick n) :: (61, ⟨tv, false, 9, 1, st.tick.tr.map av⟩) :: T) := fun v x hx => by
  refine ⟨tv, n, [], xs, ?_, ?_, fun h => absurd (h0.symm.trans h) (by decide), .inl ⟨v, rfl, ?_⟩⟩
  ·rw [List.append_nil, hTe, BE]
  ·rw [List.append_nil]; exact hR1
  ·rw [List.append_nil]; exact hx
 rw [← hTe] at hT hTT hT1 ⊢
 generalize hnd : l.getD i default = nd at *
 generalize hks : List.map (fun k => AD l k.toNat) (AF l i) = ks at *
 have hkl : ks.length = (AF l i).length := by rw [← hks, List.length_map]
 unfold wB
 simp +contextual -dsimp (maxSteps := 2000000) only [↓SD, SU, simprocAttr, Az, xo, xp]
 refine Ae [60] (En b tv M st n hc.h0 hm hM) (by simp +contextual -dsimp only [↓SD, SU, simprocAttr, wB]) ?_
 rintro r hp' ⟨rfl, rfl⟩
 have hst : st.tick.tr = st.tr := rfl
 rw [← hst]
 clear hR hst
 generalize st.tick = st1 at *
 unfold wB
 have hn1 := hN (by rw [hk]; decide)
 rw [hk, show AJ 5 = 1 from rfl] at hn1
 have hA0 := hA 0 (by omega)
 have hl1 : (ks.length : Int) = 1 := by omega
 have hl0 : 0 < ks.length := by omega
 simp +contextual -dsimp (maxSteps := 2000000) only [↓SD, SU, simprocAttr, hT1, hk, Aa, hl1, hl0, hA0, xo, xp, A7, BW, Bx]
 refine Af.post ((60, wB b tv M st1 n) :: (61, ⟨tv, false, 9, 1, st1.tr.map av⟩) :: T) ?_
 unfold wB
 simp +contextual -dsimp (maxSteps := 2000000) only [↓SD, SU, simprocAttr, xo, xp]
 refine ⟨Am (Am hTT hT (by decide)) hT (by decide), ?_⟩
 exact hend _ _ (by have := IRX.fn (l := l) (vs := vs) (M - st1.steps) i e xe he; unfold fnA at this; rw [hnd] at this; exact this)
set_option maxHeartbeats 8000000 in
theorem AcK {l : List Node} {B M b f : Nat} (hp : Cb l B) (hM : M ≤ 100000) (i : Nat) (e : EE) (st : ES) (tv : Nat) (n : Int) (vs : List Nat) (xs : List AV) (xe : AV) (hc : Can l B M (f + 1) i e st) (hR : Dz l vs (M - st.steps) st.refs xs) (xo : xe.one = true) (xp : ∀ hp, xe.AR hp = xe) (he : st.steps < M → IRE l vs (M - (st.steps + 1)) e xe) (hm : ¬ M ≤ st.steps) (hk : (l.getD i default).kind = 3) : Ay Tryz.prog 24 [.ptr 60 b 0 0, av (AD l i), xe] (iH b tv M st n vs xs) (Di l vs b M (An l M (f + 1) i e st)) := by
 refine Az.H rfl ?_
 have hev : An l M (f + 1) i e st = (match DR (l.getD i default).s e with | some v => (some v, st.tick) | none => (none, st.tick.bad)) := by rw [An, if_neg hm]; simp only [Ho, hk, Int.reduceEq, if_true, if_false] <;> (try (cases DR (l.getD i default).s e <;> rfl))
 rw [hev]
 clear hev
 have he : IRE l vs (M - st.tick.steps) e xe := he (by omega)
 have hN := fun h => Il hp hc.hi h
 have hA := fun j hj => G6 l i j hj
 rw [B3 (fun i hi k hk => hp.nodes.kids i hi k hk) hc.hi, DU, BE]
 have hT := BC 0 vs xs
 have hTT := Bh vs xs 0
 have hT1 := Bf hT 60
 obtain ⟨T, hTe⟩ : ∃ T, T = Co 0 vs xs := ⟨_, rfl⟩
 have hR1 : Dz l vs (M - st.tick.steps) st.tick.refs xs := hR.mono (by show M - (st.steps + 1) ≤ M - st.steps; omega)
 have h0 : st.tick.stop = 0 := hc.h0
 have hend : ∀ (v : EV) (x : AV), IR l vs (M - st.tick.steps) v x → Di l vs b M (some v, st.tick) x ((60, wB b tv M st.tick n) :: (61, ⟨tv, false, 9, 1, st.tick.tr.map av⟩) :: T) := fun v x hx => by
  refine ⟨tv, n, [], xs, ?_, ?_, fun h => absurd (h0.symm.trans h) (by decide), .inl ⟨v, rfl, ?_⟩⟩
  ·rw [List.append_nil, hTe, BE]
  ·rw [List.append_nil]; exact hR1
  ·rw [List.append_nil]; exact hx
 rw [← hTe] at hT hTT hT1 ⊢
 generalize hnd : l.getD i default = nd at *
 generalize hks : List.map (fun k => AD l k.toNat) (AF l i) = ks at *
 have hkl : ks.length = (AF l i).length := by rw [← hks, List.length_map]
 unfold wB
 simp +contextual -dsimp (maxSteps := 2000000) only [↓SD, SU, simprocAttr, Az, xo, xp]
 refine Ae [60] (En b tv M st n hc.h0 hm hM) (by simp +contextual -dsimp only [↓SD, SU, simprocAttr, wB]) ?_
 rintro r hp' ⟨rfl, rfl⟩
 have hst : st.tick.tr = st.tr := rfl
 rw [← hst]
 clear hR hst
 generalize st.tick = st1 at *
 unfold wB
 have CN := Acv l vs (M - st1.steps) b tv M st1 n nd.s e xe he
 unfold wB at CN
 have xA := fun hp => he.Bv hp
 simp +contextual -dsimp (maxSteps := 2000000) only [↓SD, SU, simprocAttr, hT1, hk, xo, xp, xA]
 refine Ae [60] CN (by simp +contextual -dsimp only [↓SD, SU, simprocAttr]) ?_
 rintro r hp' hNm
 rcases hNm with ⟨v, hv, rfl, hx⟩ | ⟨hv, rfl, rfl⟩
 ·rw [hv]
  have vo := hx.one
  have vp := fun hp => hx.AR hp
  have vq := fun hp => hx.pur hp
  unfold wB
  simp +contextual -dsimp (maxSteps := 2000000) only [↓SD, SU, simprocAttr, hT1, vo, vp, vq]
  refine Af.post ((60, wB b tv M st1 n) :: (61, ⟨tv, false, 9, 1, st1.tr.map av⟩) :: T) ?_
  unfold wB
  simp +contextual -dsimp (maxSteps := 2000000) only [↓SD, SU, simprocAttr, vo, vp, vq]
  refine ⟨Am (Am hTT hT (by decide)) hT (by decide), ?_⟩
  exact hend _ _ (hx)
 ·rw [hv]
  unfold wB
  simp +contextual -dsimp (maxSteps := 2000000) only [↓SD, SU, simprocAttr, hT1]
  refine Af.post ((60, wB b tv M st1.bad n) :: (61, ⟨tv, false, 9, 1, st1.tr.map av⟩) :: T) ?_
  unfold wB
  simp +contextual -dsimp (maxSteps := 2000000) only [↓SD, SU, simprocAttr, show st1.bad.inp = st1.inp from rfl, show st1.bad.tr = st1.tr from rfl, show st1.bad.steps = st1.steps from rfl, show st1.bad.stop = 4 from rfl]
  refine ⟨Am (Am hTT hT (by decide)) hT (by decide), ?_⟩
  refine ⟨tv, n, [], xs, ?_, ?_, fun h => absurd (show (4 : Int) = 2 from h) (by decide), .inr ⟨rfl, rfl⟩⟩
  ·rw [List.append_nil, hTe, BE]; rfl
  ·rw [List.append_nil]; exact hR1
end Go.Proofs.YtjbcnilllfaipaaGreat
