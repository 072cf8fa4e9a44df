/-
 A TREE LAID DOWN BY THE REFERENCE'S READER, its patterns in rows of their own: l03Lay. Conditions: none.
-/
import Derived.Test.YtoffpbehgncakaaGreatKReadX
set_option linter.unusedVariables false
set_option linter.unusedSimpArgs false
set_option maxRecDepth 100000
namespace Go.Proofs.YtoffpbehgncakaaGreat
open Go.RowKit Go.Proofs.YtoffpbehgncakaaGreat.Av Go.Proofs.YtoffpbehgncakaaGreat.Ml
open Go.Proofs.YtoffpbehgncakaaGreat.Av.AVal (av)
open OVal (ov oh on)

def F4 (m : Nat) (T : Hp) (y : AV) : Prop := ∃ (k p n : Int) (s : ByteArray) (ks : List Int) (P : AV), s.size ≤ m ∧ Gs m T P ∧ y = .agg [.int .i64 k, .int .i64 p, .int .i64 n, .str s, .sl (ks.map av), P] ∧ ks.length ≤ 1048576 -- 
def kq : AV → List Nat
 | .agg [_, _, _, _, _, P] => kp P
 | _ => []
theorem Aav {a b : List AV} (h : slN a = slN b) : a = b := by cases a <;> cases b <;> simp [slN] at h ⊢ <;> exact h
theorem AaP {k p n : Int} {s : ByteArray} {P : AV} {es : List AV} {N : List Nat} (h : KD (.agg [.int .i64 k, .int .i64 p, .int .i64 n, .str s, .Au, P, slN es]) N) : ∃ N', N = kp P ++ N' ∧ KDs es N' := by
 generalize hX : AV.agg [.int .i64 k, .int .i64 p, .int .i64 n, .str s, .Au, P, slN es] = X at h
 cases h with
 | mk k' p' n' s' P' es' N' h' =>
  simp only [AV.agg.injEq, List.cons.injEq] at hX
  obtain ⟨_, _, _, _, _, rfl, he, _⟩ := hX
  exact ⟨N', rfl, Aav he ▸ h'⟩
def Ww (hp : Hp) : Prop := ∀ p ∈ hp, p.1 < 10000
theorem Zn : Ww [] = True := eq_true fun p h => by cases h
theorem Zo (k : Nat) (b : Box) (hp : Hp) : Ww ((k, b) :: hp) = (k < 10000 ∧ Ww hp) := propext ⟨fun h => ⟨h (k, b) List.mem_cons_self, fun p hp' => h p (List.mem_cons_of_mem _ hp')⟩, fun h p hp' => by
 rcases List.mem_cons.1 hp' with e | e
 ·subst e; exact h.1
 ·exact h.2 p e⟩
theorem Gs.low {m : Nat} {T : Hp} {P : AV} (h : Gs m T P) : ∀ hp, Ww hp → P.Bu hp = P := fun hp hl => by
 rcases h with rfl | ⟨K, vs, l, rfl, hK, _⟩
 ·rfl
 ·have : Ay hp K = none := Mf fun p hp' e => by have := hl p hp'; omega
  show (match Ay hp K with | some b => _ | none => _) = _
  rw [this]
theorem Tc {m : Nat} {T : Hp} : ∀ {l : List AV} {w : Nat}, EAs m T w l → l.length ≤ w
 | _, _, .nil => Nat.le_refl _
 | _, _, .cons a b x l h hl => by
  have := Tc hl
  have : 1 ≤ a := by cases h; omega
  simp only [List.length_cons]; omega
def Acb (G : List AV) (x : AV) (hp : Hp) : Prop := (G = [] ∧ x = .Au ∧ hp = []) ∨ ∃ v, x = .row 2102 v G.length ∧ hp = [(2102, ⟨v, false, 51, 6, G⟩)]
def Acp (m : Nat) (T : Hp) (G : List AV) (w : Nat) (N : List Nat) (r : AV) (hp' : Hp) : Prop := ∃ v F, r = .row 2102 v (G.length + w) ∧ hp' = [(2102, ⟨v, false, 51, 6, G ++ F⟩)] ∧ F.length = w ∧ (∀ y ∈ F, F4 m T y) ∧ F.flatMap kq = N
structure LdS where
 j : Nat
 a : Nat
 F : List AV
 K : List Int
 v : Nat
 u : Nat
 N : List Nat
set_option maxHeartbeats 4000000 in
theorem U1 (m : Nat) (T : Hp) : ∀ (w : Nat) (X : AV) (N : List Nat), EA m T w X → KD X N → ∀ (G : List AV) (x : AV) (hp : Hp), Acb G x hp → G.length + w ≤ 1048576 → AW Tryz.prog 52 [x, X] hp (Acp m T G w N) := by -- 
 intro w
 induction w using Nat.strongRecOn with
 | ind w ih =>
 intro X N hX hK G x hp hx hb
 have hv := hX.ev
 cases hX with
 | mk k p n s P es w' hs hP he =>
 obtain ⟨N', rfl, hKs⟩ := AaP hK
 have hPl := hP.low
 have hPk := hP.QJ.2
 have hPo := hP.QJ.1
 have hel := Tc he
 obtain ⟨KA, hKA⟩ : ∃ KA, KA = slN es := ⟨_, rfl⟩
 have hKl : ∀ F, Ic false KA F = F (.int .i64 es.length) := fun F => by rw [hKA, VH]
 have hKa : ∀ (j : Nat) (h : j < es.length) (hp : Hp) (F : AV → Prop), EV es[j] → Dc hp 7 KA (.int .i64 j) F = F (.obj (es[j]).cells) := fun j h hp F hv => by
  rw [hKA, YG h]
  have e1 : es.getD j .top = es[j] := by rw [List.getD_eq_getElem?_getD, List.getElem?_eq_getElem h]; rfl
  simp [Dc, e1, h, hv.len]
 have hKp : ∀ hp, KA.Bu hp = KA := fun hp => by rw [hKA, GI]
 have hKo : KA.one = true := by rw [hKA, VG]
 rw [← hKA] at hv ⊢
 obtain ⟨Z, hZ⟩ : ∃ Z : AV, Z = .agg [.int .i64 0, .int .i64 0, .int .i64 0, .str (bs []), .Au, .Au] := ⟨_, rfl⟩
 refine FU.H rfl ?_
 rcases hx with ⟨hG0, rfl, rfl⟩ | ⟨v, rfl, rfl⟩
 case' inl =>
  have hG1 : G.length = 0 := by rw [hG0]; rfl
  simp +contextual -dsimp only [↓SD, SU, simprocAttr, FU, hKl, hKp, hPl, Zn, Zo]
  refine ⟨by unfold maxLen; omega, fun v1 v6 => ?_⟩
  refine C0 (X := LdS) (fun x => ⟨[(0, .row 2102 x.v (G.length + 1 + x.a)), (3, .obj [.int .i64 k, .int .i64 p, .int .i64 n, .str s, .Au, P, KA]), (5, .int .i64 G.length), (6, .ptr 6 v6 0 0), (19, .int .i64 es.length), (20, .int .i64 x.j)], [(2102, ⟨x.v, false, 51, 6, G ++ Z :: x.F⟩), (6, ⟨v6, false, 51, 6, [.agg [.int .i64 k, .int .i64 p, .int .i64 n, .str s, .row 28 x.u x.j, P]]⟩), (28, ⟨x.u, false, 3, 1, x.K.map av⟩)]⟩) (fun x => x.j ≤ es.length ∧ EAs m T (w' - x.a) (es.drop x.j) ∧ x.F.length = x.a ∧ (∀ y ∈ x.F, F4 m T y) ∧ x.K.length = x.j ∧ (KDs (es.drop x.j) x.N ∧ x.F.flatMap kq ++ x.N = N') ∧ x.a ≤ w') (fun x => es.length - x.j) ?_ ?_
  ·refine Ai.Fl 6 0 4 28 3 1 rfl rfl Nat.zero_lt_one rfl (by decide) fun z => ?_
   exact Ai.le ⟨⟨0, 0, [], [], v1, z, N'⟩, ⟨Nat.zero_le _, he, rfl, (fun y hy => by cases hy), rfl, ⟨hKs, rfl⟩, Nat.zero_le _⟩, rfl⟩ (by simp +contextual -dsimp only [↓SD, SU, simprocAttr, hG1]) (by simp +contextual -dsimp only [↓SD, SU, simprocAttr, hG0, hZ, List.map_nil])
 case' inr =>
  have t0 : List.take G.length G = G := List.take_length
  simp +contextual -dsimp only [↓SD, SU, simprocAttr, FU, hKl, hKp, hPl, Zn, Zo, t0]
  refine ⟨⟨by omega, by unfold maxLen; omega⟩, fun v1 v6 => ?_⟩
  refine C0 (X := LdS) (fun x => ⟨[(0, .row 2102 x.v (G.length + 1 + x.a)), (3, .obj [.int .i64 k, .int .i64 p, .int .i64 n, .str s, .Au, P, KA]), (5, .int .i64 G.length), (6, .ptr 6 v6 0 0), (19, .int .i64 es.length), (20, .int .i64 x.j)], [(2102, ⟨x.v, false, 51, 6, G ++ Z :: x.F⟩), (6, ⟨v6, false, 51, 6, [.agg [.int .i64 k, .int .i64 p, .int .i64 n, .str s, .row 28 x.u x.j, P]]⟩), (28, ⟨x.u, false, 3, 1, x.K.map av⟩)]⟩) (fun x => x.j ≤ es.length ∧ EAs m T (w' - x.a) (es.drop x.j) ∧ x.F.length = x.a ∧ (∀ y ∈ x.F, F4 m T y) ∧ x.K.length = x.j ∧ (KDs (es.drop x.j) x.N ∧ x.F.flatMap kq ++ x.N = N') ∧ x.a ≤ w') (fun x => es.length - x.j) ?_ ?_
  ·refine Ai.Fl 6 0 4 28 3 1 rfl rfl Nat.zero_lt_one rfl (by decide) fun z => ?_
   exact Ai.le ⟨⟨0, 0, [], [], v1, z, N'⟩, ⟨Nat.zero_le _, he, rfl, (fun y hy => by cases hy), rfl, ⟨hKs, rfl⟩, Nat.zero_le _⟩, rfl⟩ (by simp +contextual -dsimp only [↓SD, SU, simprocAttr]) (by simp +contextual -dsimp only [↓SD, SU, simprocAttr, hZ, List.map_nil])
 all_goals
  rintro ⟨j, a, F, KL, va, ub, Nr⟩ ⟨hj, hea, hFl, hFn, hKL, ⟨hKr, hNr⟩, haw⟩
  dsimp only at hj hea hFl hFn hKL hKr hNr haw ⊢
  have hKm : (KL.map (av : Int → AV)).length = j := by rw [List.length_map, hKL]
  have hKP : ∀ hp, (KL.map (av : Int → AV)).map (AV.pur hp) = KL.map av := fun hp => Ab KL hp
  by_cases hlt : j < es.length
  ·have hdr : es.drop j = es[j] :: es.drop (j + 1) := List.drop_eq_getElem_cons hlt
   rw [hdr] at hea hKr
   obtain ⟨NA, NB, hKA2, hKB, rfl⟩ : ∃ A B, KD es[j] A ∧ KDs (es.drop (j + 1)) B ∧ Nr = A ++ B := by
    cases hKr with
    | cons _ _ A B h1 h2 => exact ⟨A, B, h1, h2, rfl⟩
   generalize hwa : w' - a = wr at hea
   cases hea with
   | cons b c _ _ hE hR =>
   have hvj := hE.ev
   have e1 := fun hp F => hKa j hlt hp F hvj
   have hL : (G ++ Z :: F).length = G.length + 1 + a := by simp [hFl]; omega
   have C := ih b (by omega) es[j] NA hE hKA2 (G ++ Z :: F) (.row 2102 va (G.length + 1 + a)) [(2102, ⟨va, false, 51, 6, G ++ Z :: F⟩)] (.inr ⟨va, by rw [hL], rfl⟩) (by rw [hL]; omega)
   unfold Acp at C
   rw [hL] at C
   have hkt : List.take j (KL.map (av : Int → AV)) = KL.map av := List.take_of_length_le (by rw [hKm]; exact Nat.le_refl _)
   have happ : ∀ F', G ++ Z :: F ++ F' = G ++ Z :: (F ++ F') := fun F' => by simp
   generalize es[j] = Xj at *
   simp +contextual -dsimp only [↓SD, SU, simprocAttr, hlt, e1, hKm, hkt, false_and, Ar hvj, Az hvj, Aj hvj, Ak hvj, Aq hvj, Ax, Ae]
   refine ⟨⟨by omega, by unfold maxLen; omega⟩, fun u' => ?_⟩
   refine Ao [2102] C (by simp +contextual -dsimp only [↓SD, SU, simprocAttr]) ?_
   rintro r hp' ⟨w2, F', rfl, rfl, hF1, hF2, hF3⟩ H hH
   subst hH
   simp +contextual -dsimp only [↓SD, SU, simprocAttr]
   refine ⟨by omega, Ai.le ⟨⟨j + 1, a + b, F ++ F', KL ++ [((G.length : Int) + 1 + a)], w2, u', NB⟩, ⟨⟨hlt, ?_, ?_, ?_, ?_, ?_, ?_⟩, (by first | omega | (simp only; omega))⟩, rfl⟩ (by simp +contextual -dsimp only [↓SD, SU, simprocAttr, Int.natCast_add, Nat.add_assoc]) (by simp +contextual -dsimp only [↓SD, SU, simprocAttr, happ, Int.natCast_add, List.map_append, Af])⟩
   ·show EAs m T (w' - (a + b)) (es.drop (j + 1))
    have : w' - (a + b) = c := by omega
    rw [this]; exact hR
   ·show (F ++ F').length = a + b
    rw [List.length_append, hFl, hF1]
   ·intro y hy
    rcases List.mem_append.1 hy with h | h
    ·exact hFn y h
    ·exact hF2 y h
   ·show (KL ++ [_]).length = j + 1
    simp [hKL]
   ·refine ⟨hKB, ?_⟩
    show (F ++ F').flatMap kq ++ NB = N'
    rw [List.flatMap_append, hF3, List.append_assoc]; exact hNr
   ·show a + b ≤ w'
    omega
  ·obtain rfl : j = es.length := by omega
   rw [List.drop_length] at hea hKr
   cases hKr
   rw [List.append_nil] at hNr
   generalize hwa : w' - a = wr at hea
   cases hea
   obtain rfl : a = w' := by omega
   have hkt : List.take es.length (KL.map (av : Int → AV)) = KL.map av := List.take_of_length_le (by rw [hKm]; exact Nat.le_refl _)
   have hL : (G ++ Z :: F).length = G.length + 1 + a := by simp [hFl]; omega
   have hG : (G ++ Z :: F).getD G.length .top = Z := by simp [List.getD_eq_getElem?_getD]
   have hS : ∀ x, (G ++ Z :: F).set G.length x = G ++ x :: F := fun x => by simp [List.set_append]
   have hlt2 : (G.length : Int) < (G.length : Int) + 1 + (a : Int) := by omega
   have hlt3 : G.length < G.length + 1 + a := by omega
   generalize hQ : G ++ Z :: F = Q at *
   rw [hZ] at hG
   simp +contextual -dsimp only [↓SD, SU, simprocAttr, Nat.lt_irrefl]
   refine BQ (Ai.frz 28 (Ai.Jk 6 (b := ⟨v6, false, 51, 6, [.agg [.int .i64 k, .int .i64 p, .int .i64 n, .str s, .row 28 ub es.length, P]]⟩) rfl (Ai.here ?_)))
   simp +contextual -dsimp only [↓SD, SU, simprocAttr, hKP, hkt, hKm, Nat.le_refl, hL, hG, hS, hlt2, hlt3, hPl, Zn, Zo]
   refine Ai.post [(2102, ⟨va, false, 51, 6, G ++ .agg [.int .i64 k, .int .i64 p, .int .i64 n, .str s, .sl (KL.map av), P] :: F⟩)] ?_
   simp +contextual -dsimp only [↓SD, SU, simprocAttr, false_and]
   refine ⟨va, .agg [.int .i64 k, .int .i64 p, .int .i64 n, .str s, .sl (KL.map av), P] :: F, ?_, rfl, by simp [hFl], fun y hy => ?_, ?_⟩
   ·rw [Nat.add_assoc, Nat.add_comm 1 a]
   ·rcases List.mem_cons.1 hy with h | h
    ·exact ⟨k, p, n, s, KL, P, hs, hP, h, by omega⟩
    ·exact hFn y h
   ·rw [List.flatMap_cons, hNr]; rfl
end Go.Proofs.YtoffpbehgncakaaGreat
