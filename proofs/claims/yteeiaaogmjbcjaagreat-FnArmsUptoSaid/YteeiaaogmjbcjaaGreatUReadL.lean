/-
 A TREE LAID DOWN BY THE REFERENCE'S READER, its patterns in rows of their own: l03Lay. Conditions: none.
-/
import Derived.Test.YteeiaaogmjbcjaaGreatUReadX
set_option linter.unusedVariables false
set_option linter.unusedSimpArgs false
set_option maxRecDepth 100000
namespace Go.Proofs.YteeiaaogmjbcjaaGreat
open Go.RowKit Go.Proofs.YteeiaaogmjbcjaaGreat.Av Go.Proofs.YteeiaaogmjbcjaaGreat.Ml
open Go.Proofs.YteeiaaogmjbcjaaGreat.Av.AVal (av)
open OVal (ov oh on)

def Ub (m : Nat) (T : Hp) (y : AV) : Prop := ∃ (k p n : Int) (s : ByteArray) (ks : List AV) (P : AV), s.size ≤ m ∧ KN m T P ∧ y = .agg [.int .i64 k, .int .i64 p, .int .i64 n, .str s, .sl ks, P]
def Ws (hp : Hp) : Prop := ∀ p ∈ hp, p.1 < 10000
theorem ZB : Ws [] = True := eq_true fun p h => by cases h
theorem ZC (k : Nat) (b : Box) (hp : Hp) : Ws ((k, b) :: hp) = (k < 10000 ∧ Ws hp) := propext ⟨fun h => ⟨h (k, b) List.mem_cons_self, fun p hp' => h p (List.mem_cons_of_mem _ hp')⟩, fun h p hp' => by
 rcases List.mem_cons.1 hp' with e | e
 ·subst e; exact h.1
 ·exact h.2 p e⟩
theorem KN.low {m : Nat} {T : Hp} {P : AV} (h : KN m T P) : ∀ hp, Ws hp → P.Bs hp = P := fun hp hl => by
 rcases h with rfl | ⟨K, vs, l, rfl, hK, _⟩
 ·rfl
 ·have : Aw hp K = none := Kt fun p hp' e => by have := hl p hp'; omega
  show (match Aw hp K with | some b => _ | none => _) = _
  rw [this]
theorem S5 {m : Nat} {T : Hp} : ∀ {l : List AV} {w : Nat}, EAs m T w l → l.length ≤ w
 | _, _, .nil => Nat.le_refl _
 | _, _, .cons a b x l h hl => by
  have := S5 hl
  have : 1 ≤ a := by cases h; omega
  simp only [List.length_cons]; omega
def Acw (G : List AV) (x : AV) (hp : Hp) : Prop := (G = [] ∧ x = .Au ∧ hp = []) ∨ ∃ v, x = .row 2102 v G.length ∧ hp = [(2102, ⟨v, false, 114, 6, G⟩)]
def AcP (m : Nat) (T : Hp) (G : List AV) (w : Nat) (r : AV) (hp' : Hp) : Prop := ∃ v F, r = .row 2102 v (G.length + w) ∧ hp' = [(2102, ⟨v, false, 114, 6, G ++ F⟩)] ∧ F.length = w ∧ ∀ y ∈ F, Ub m T y
structure LdS where
 j : Nat
 a : Nat
 F : List AV
 K : List AV
 v : Nat
 u : Nat
set_option maxHeartbeats 4000000 in
theorem UO (m : Nat) (T : Hp) : ∀ (w : Nat) (X : AV), EA m T w X → ∀ (G : List AV) (x : AV) (hp : Hp), Acw G x hp → G.length + w ≤ 1048576 → AH Tryz.prog 116 [x, X] hp (AcP m T G w) := by
 intro w
 induction w using Nat.strongRecOn with
 | ind w ih =>
 intro X hX G x hp hx hb
 have hv := hX.ev
 cases hX with
 | mk k p n s P es w' hs hP he =>
 have hPl := hP.low
 have hPk := hP.keep.2
 have hPo := hP.keep.1
 have hel := S5 he
 obtain ⟨KA, hKA⟩ : ∃ KA, KA = slN es := ⟨_, rfl⟩
 have hKl : ∀ F, Fu false KA F = F (.int .i64 es.length) := fun F => by rw [hKA, L5]
 have hKa : ∀ (j : Nat) (h : j < es.length) (hp : Hp) (F : AV → Prop), EV es[j] → Cj hp 7 KA (.int .i64 j) F = F (.obj (es[j]).cells) := fun j h hp F hv => by
  rw [hKA, Uq h]
  have e1 : es.getD j .top = es[j] := by rw [List.getD_eq_getElem?_getD, List.getElem?_eq_getElem h]; rfl
  simp [Cj, e1, h, hv.len]
 have hKp : ∀ hp, KA.Bs hp = KA := fun hp => by rw [hKA, DY]
 have hKo : KA.one = true := by rw [hKA, J4]
 rw [← hKA] at hv ⊢
 obtain ⟨Z, hZ⟩ : ∃ Z : AV, Z = .agg [.int .i64 0, .int .i64 0, .int .i64 0, .str (bs []), .Au, .Au] := ⟨_, rfl⟩
 refine FR.H rfl ?_
 rcases hx with ⟨hG0, rfl, rfl⟩ | ⟨v, rfl, rfl⟩
 case' inl =>
  have hG1 : G.length = 0 := by rw [hG0]; rfl
  simp +contextual -dsimp only [↓SD, SU, simprocAttr, FR, hKl, hKp, hPl, ZB, ZC]
  refine ⟨by unfold maxLen; omega, fun v1 v6 => ?_⟩
  refine Cu (X := LdS) (fun x => ⟨[(0, .row 2102 x.v (G.length + 1 + x.a)), (3, .obj [.int .i64 k, .int .i64 p, .int .i64 n, .str s, .Au, P, KA]), (5, .int .i64 G.length), (6, .ptr 6 v6 0 0), (19, .int .i64 es.length), (20, .int .i64 x.j)], [(2102, ⟨x.v, false, 114, 6, G ++ Z :: x.F⟩), (6, ⟨v6, false, 114, 6, [.agg [.int .i64 k, .int .i64 p, .int .i64 n, .str s, .row 28 x.u x.j, P]]⟩), (28, ⟨x.u, false, 3, 1, x.K⟩)]⟩) (fun x => x.j ≤ es.length ∧ EAs m T (w' - x.a) (es.drop x.j) ∧ x.F.length = x.a ∧ (∀ y ∈ x.F, Ub m T y) ∧ x.K.length = x.j ∧ (∀ hp, x.K.map (AV.pur hp) = x.K) ∧ x.a ≤ w') (fun x => es.length - x.j) ?_ ?_
  ·refine Ai.EB 6 0 4 28 3 1 rfl rfl Nat.zero_lt_one rfl (by decide) fun z => ?_
   exact Ai.le ⟨⟨0, 0, [], [], v1, z⟩, ⟨Nat.zero_le _, he, rfl, (fun y hy => by cases hy), rfl, (fun _ => rfl), Nat.zero_le _⟩, rfl⟩ (by simp +contextual -dsimp only [↓SD, SU, simprocAttr, hG1]) (by simp +contextual -dsimp only [↓SD, SU, simprocAttr, hG0, hZ])
 case' inr =>
  have t0 : List.take G.length G = G := List.take_length
  simp +contextual -dsimp only [↓SD, SU, simprocAttr, FR, hKl, hKp, hPl, ZB, ZC, t0]
  refine ⟨⟨by omega, by unfold maxLen; omega⟩, fun v1 v6 => ?_⟩
  refine Cu (X := LdS) (fun x => ⟨[(0, .row 2102 x.v (G.length + 1 + x.a)), (3, .obj [.int .i64 k, .int .i64 p, .int .i64 n, .str s, .Au, P, KA]), (5, .int .i64 G.length), (6, .ptr 6 v6 0 0), (19, .int .i64 es.length), (20, .int .i64 x.j)], [(2102, ⟨x.v, false, 114, 6, G ++ Z :: x.F⟩), (6, ⟨v6, false, 114, 6, [.agg [.int .i64 k, .int .i64 p, .int .i64 n, .str s, .row 28 x.u x.j, P]]⟩), (28, ⟨x.u, false, 3, 1, x.K⟩)]⟩) (fun x => x.j ≤ es.length ∧ EAs m T (w' - x.a) (es.drop x.j) ∧ x.F.length = x.a ∧ (∀ y ∈ x.F, Ub m T y) ∧ x.K.length = x.j ∧ (∀ hp, x.K.map (AV.pur hp) = x.K) ∧ x.a ≤ w') (fun x => es.length - x.j) ?_ ?_
  ·refine Ai.EB 6 0 4 28 3 1 rfl rfl Nat.zero_lt_one rfl (by decide) fun z => ?_
   exact Ai.le ⟨⟨0, 0, [], [], v1, z⟩, ⟨Nat.zero_le _, he, rfl, (fun y hy => by cases hy), rfl, (fun _ => rfl), Nat.zero_le _⟩, rfl⟩ (by simp +contextual -dsimp only [↓SD, SU, simprocAttr]) (by simp +contextual -dsimp only [↓SD, SU, simprocAttr, hZ])
 all_goals
  rintro ⟨j, a, F, KL, va, ub⟩ ⟨hj, hea, hFl, hFn, hKL, hKP, haw⟩
  dsimp only at hj hea hFl hFn hKL hKP haw ⊢
  by_cases hlt : j < es.length
  ·have hdr : es.drop j = es[j] :: es.drop (j + 1) := List.drop_eq_getElem_cons hlt
   rw [hdr] at hea
   generalize hwa : w' - a = wr at hea
   cases hea with
   | cons b c _ _ hE hR =>
   have hvj := hE.ev
   have e1 := fun hp F => hKa j hlt hp F hvj
   have hL : (G ++ Z :: F).length = G.length + 1 + a := by simp [hFl]; omega
   have C := ih b (by omega) es[j] hE (G ++ Z :: F) (.row 2102 va (G.length + 1 + a)) [(2102, ⟨va, false, 114, 6, G ++ Z :: F⟩)] (.inr ⟨va, by rw [hL], rfl⟩) (by rw [hL]; omega)
   unfold AcP at C
   rw [hL] at C
   have hkt : List.take j KL = KL := List.take_of_length_le (by rw [hKL]; exact Nat.le_refl _)
   have happ : ∀ F', G ++ Z :: F ++ F' = G ++ Z :: (F ++ F') := fun F' => by simp
   generalize es[j] = Xj at *
   simp +contextual -dsimp only [↓SD, SU, simprocAttr, hlt, e1, hKL, hkt, false_and, Ar hvj, Ay hvj, Al hvj, Am hvj, Aq hvj, Ax, Ad]
   refine ⟨⟨by omega, by unfold maxLen; omega⟩, fun u' => ?_⟩
   refine Ak [2102] C (by simp +contextual -dsimp only [↓SD, SU, simprocAttr]) ?_
   rintro r hp' ⟨w2, F', rfl, rfl, hF1, hF2⟩ H hH
   subst hH
   simp +contextual -dsimp only [↓SD, SU, simprocAttr]
   refine ⟨by omega, Ai.le ⟨⟨j + 1, a + b, F ++ F', KL ++ [.int .i64 ((G.length : Int) + 1 + a)], w2, u'⟩, ⟨⟨hlt, ?_, ?_, ?_, ?_, ?_, ?_⟩, (by first | omega | (simp only; omega))⟩, rfl⟩ (by simp +contextual -dsimp only [↓SD, SU, simprocAttr, Int.natCast_add, Nat.add_assoc]) (by simp +contextual -dsimp only [↓SD, SU, simprocAttr, happ, Int.natCast_add])⟩
   ·show EAs m T (w' - (a + b)) (es.drop (j + 1))
    have : w' - (a + b) = c := by omega
    rw [this]; exact hR
   ·show (F ++ F').length = a + b
    rw [List.length_append, hFl, hF1]
   ·intro y hy
    rcases List.mem_append.1 hy with h | h
    ·exact hFn y h
    ·exact hF2 y h
   ·show (KL ++ [_]).length = j + 1
    simp [hKL]
   ·intro hp
    show (KL ++ [_]).map _ = _
    rw [List.map_append, hKP]; rfl
   ·show a + b ≤ w'
    omega
  ·obtain rfl : j = es.length := by omega
   rw [List.drop_length] at hea
   generalize hwa : w' - a = wr at hea
   cases hea
   obtain rfl : a = w' := by omega
   have hkt : List.take es.length KL = KL := List.take_of_length_le (by rw [hKL]; exact Nat.le_refl _)
   have hL : (G ++ Z :: F).length = G.length + 1 + a := by simp [hFl]; omega
   have hG : (G ++ Z :: F).getD G.length .top = Z := by simp [List.getD_eq_getElem?_getD]
   have hS : ∀ x, (G ++ Z :: F).set G.length x = G ++ x :: F := fun x => by simp [List.set_append]
   have hlt2 : (G.length : Int) < (G.length : Int) + 1 + (a : Int) := by omega
   have hlt3 : G.length < G.length + 1 + a := by omega
   generalize hQ : G ++ Z :: F = Q at *
   rw [hZ] at hG
   simp +contextual -dsimp only [↓SD, SU, simprocAttr, Nat.lt_irrefl]
   refine BM (Ai.frz 28 (Ai.RH 6 (b := ⟨v6, false, 114, 6, [.agg [.int .i64 k, .int .i64 p, .int .i64 n, .str s, .row 28 ub es.length, P]]⟩) rfl (Ai.here ?_)))
   simp +contextual -dsimp only [↓SD, SU, simprocAttr, hKP, hkt, hKL, Nat.le_refl, hL, hG, hS, hlt2, hlt3, hPl, ZB, ZC]
   refine Ai.post [(2102, ⟨va, false, 114, 6, G ++ .agg [.int .i64 k, .int .i64 p, .int .i64 n, .str s, .sl KL, P] :: F⟩)] ?_
   simp +contextual -dsimp only [↓SD, SU, simprocAttr, false_and]
   refine ⟨va, .agg [.int .i64 k, .int .i64 p, .int .i64 n, .str s, .sl KL, P] :: F, ?_, rfl, by simp [hFl], fun y hy => ?_⟩
   ·rw [Nat.add_assoc, Nat.add_comm 1 a]
   ·rcases List.mem_cons.1 hy with h | h
    ·exact ⟨k, p, n, s, KL, P, hs, hP, h⟩
    ·exact hFn y h
end Go.Proofs.YteeiaaogmjbcjaaGreat
