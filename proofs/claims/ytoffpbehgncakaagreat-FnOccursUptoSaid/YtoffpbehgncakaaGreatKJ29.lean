/-
 VERSIONS OF PARTS BY RANGES OF THEIR INDICES. Conditions: none.
-/
import Derived.Test.YtoffpbehgncakaaGreatKAvRen
import Derived.Test.YtoffpbehgncakaaGreatKReadH
import Derived.Test.YtoffpbehgncakaaGreatKJ15
import Derived.Test.YtoffpbehgncakaaGreatKJ18
set_option linter.unusedVariables false
set_option linter.unusedSimpArgs false
namespace Go.Proofs.YtoffpbehgncakaaGreat
open Go.RowKit Go.Proofs.YtoffpbehgncakaaGreat.Av
open Go.Proofs.YtoffpbehgncakaaGreat.Av.AVal (av)
open OVal (ov oh on)

open Classical in
noncomputable def E7 (nm m : Nat) (vs vs' : Nat → Nat) : Nat → Nat := fun k => if ∃ i, m ≤ i ∧ InT (sub nm i) k then vs k else vs' k
section
variable {α : Type} [AVal α] [OVal α]
theorem Nh {nm m : Nat} (vs vs' : Nat → Nat) : ∀ (i : Nat) (l : List α), m ≤ i → ovL nm (E7 nm m vs vs') i l = ovL nm vs i l ∧ ohL nm (E7 nm m vs vs') i l = ohL nm vs i l
 | _, [], _ => ⟨rfl, rfl⟩
 | i, e :: r, h => by
  obtain ⟨a, b⟩ := Nh (nm := nm) (m := m) vs vs' (i + 1) r (by omega)
  obtain ⟨c, d⟩ := OVal.Qk (sub nm i) (E7 nm m vs vs') vs e (fun k hk => if_pos ⟨i, h, hk⟩)
  simp only [ovL, ohL, a, b, c, d, and_self]
theorem SV {nm m : Nat} (vs vs' : Nat → Nat) : ∀ (i : Nat) (l : List α), i + l.length ≤ m → ovL nm (E7 nm m vs vs') i l = ovL nm vs' i l ∧ ohL nm (E7 nm m vs vs') i l = ohL nm vs' i l
 | _, [], _ => ⟨rfl, rfl⟩
 | i, e :: r, h => by
  simp only [List.length_cons] at h
  obtain ⟨a, b⟩ := SV (nm := nm) (m := m) vs vs' (i + 1) r (by omega)
  obtain ⟨c, d⟩ := OVal.Qk (sub nm i) (E7 nm m vs vs') vs' e (fun k hk => if_neg (fun ⟨j, hj, hk'⟩ => by have := hk.sib hk'; omega))
  simp only [ovL, ohL, a, b, c, d, and_self]
theorem Pu {nm : Nat} (vs vs' : Nat → Nat) (i : Nat) (a b : List α) : ovL nm (E7 nm (i + a.length) vs vs') i (a ++ b) = ovL nm vs' i a ++ ovL nm vs (i + a.length) b ∧ ohL nm (E7 nm (i + a.length) vs vs') i (a ++ b) = ohL nm vs' i a ++ ohL nm vs (i + a.length) b := by
 have h1 := SV (α := α) (nm := nm) (m := i + a.length) vs vs' i a (Nat.le_refl _)
 have h2 := Nh (α := α) (nm := nm) (m := i + a.length) vs vs' (i + a.length) b (Nat.le_refl _)
 rw [Wa, Wq, h1.1, h1.2, h2.1, h2.2]
 exact ⟨rfl, rfl⟩
theorem XS {nm m i : Nat} {vs vs' : Nat → Nat} {a b : List α} {s : Hp} (hm : i + a.length ≤ m) (hs : ∀ p ∈ ohL nm vs' i a, Ay s p.1 = some p.2) : Bt (ohL nm vs m b ++ s) (ohL nm vs' i a ++ ohL nm vs m b) := by
 rw [AO]
 refine ⟨AP.2 fun p hp => ?_, EB (GN nm vs m b)⟩
 obtain ⟨q, hq, hin⟩ := Kp hp
 have hn : ∀ r ∈ ohL nm vs m b, r.1 ≠ p.1 := fun r hr e => by
  obtain ⟨j, hj, h2⟩ := Et hr
  rw [e] at h2
  have := h2.sib (OVal.inh hin)
  omega
 rw [Db hn]
 exact hs p hp
end
theorem AaK {α : Type} [AVal α] [OVal α] {nm i q : Nat} {vs : Nat → Nat} {l : List α} (h : q < 10000) : Ay (ohL nm vs i l) q = none := Mf fun p hp e => by
 obtain ⟨j, _, hj⟩ := Et hp
 have := hj.ge
 omega
end Go.Proofs.YtoffpbehgncakaaGreat
set_option linter.unusedVariables false
set_option linter.unusedSimpArgs false
set_option maxRecDepth 100000
namespace Go.Proofs.YtoffpbehgncakaaGreat
open Go.RowKit Go.Proofs.YtoffpbehgncakaaGreat.Av Go.Proofs.YtoffpbehgncakaaGreat.Ml
open Go.Proofs.YtoffpbehgncakaaGreat.Av.AVal (av)
open OVal (ov oh on)

theorem VH (l : List AV) (K : AV → Prop) : Ic false (slN l) K = K (.int .i64 l.length) := by cases l <;> simp [slN, Ic]
theorem YG {l : List AV} {j : Nat} (h : j < l.length) (hp : Hp) (esz : Nat) (K : AV → Prop) : Dc hp esz (slN l) (.int .i64 j) K = Dc hp esz (.sl l) (.int .i64 j) K := by
 cases l with
 | nil => simp at h
 | cons a r => rfl
def Aca (G : List AV) (x : AV) (hp : Hp) : Prop := (G = [] ∧ x = .Au ∧ hp = []) ∨ ∃ v, x = .row 29 v G.length ∧ hp = [(29, ⟨v, false, 83, 4, G⟩)]
def Abj (nm : Nat) (G : List AV) (e : Px) (r : AV) (hp' : Hp) : Prop := ∃ v vs, r = .row 29 v (G.length + pxN e) ∧ hp' = (29, ⟨v, false, 83, 4, G ++ ovL nm vs G.length (B9 G.length e)⟩) :: ohL nm vs G.length (B9 G.length e)
structure FrS where
 j : Nat
 v : Nat
 u : Nat
 vs : Nat → Nat
set_option maxHeartbeats 4000000 in
theorem U0 (nm : Nat) : ∀ (e : Px) (G : List AV) (x : AV) (hp : Hp), Aca G x hp → G.length + pxN e ≤ 1099511627776 → AW Tryz.prog 177 [x, psA e] hp (Abj nm G e) := by
 refine Px.ind fun n ks ih G x hp hx hb => ?_
 have ec : pxN (.mk n ks) = 1 + Df ks := by rw [pxN]
 rw [ec] at hb
 have hkl := RA ks
 obtain ⟨K, hK⟩ : ∃ K, K = sub (sub nm G.length) 0 := ⟨_, rfl⟩
 have hK0 : 10000 ≤ K := by rw [hK]; exact EP _ _
 have hKn : ∀ q, q < 10000 → (q == K) = false := fun q hq => by rw [hK]; exact Me hq
 have hKm : ∀ q, q < 10000 → (K == q) = false := fun q hq => beq_eq_false_iff_ne.2 (by omega)
 have hml : (ks.map psA).length = ks.length := by simp
 obtain ⟨KA, hKA⟩ : ∃ KA, KA = slN (ks.map psA) := ⟨_, rfl⟩
 have hKl : ∀ F, Ic false KA F = F (.int .i64 ks.length) := fun F => by rw [hKA, VH, hml]
 have hKa : ∀ (j : Nat) (h : j < ks.length) (hp : Hp) (F : AV → Prop), Dc hp 5 KA (.int .i64 j) F = F (.obj (psA ks[j]).cells) := fun j h hp F => by
  rw [hKA, YG (by rw [hml]; exact h)]
  have e1 : (ks.map psA).getD j .top = psA ks[j] := by rw [List.getD_eq_getElem?_getD, List.getElem?_map, List.getElem?_eq_getElem h]; rfl
  simp [Dc, e1, h, Ea]
 have hKp : ∀ hp, KA.Bu hp = KA := fun hp => by rw [hKA, GI]
 have hKo : KA.one = true := by rw [hKA, VG]
 refine Fg.H rfl ?_
 rw [Gt, ← hKA]
 obtain ⟨Z, hZ⟩ : ∃ Z : AV, Z = .agg [.int .i64 0, .int .i64 0, .str (bs []), .Au] := ⟨_, rfl⟩
 rcases hx with ⟨hG0, rfl, rfl⟩ | ⟨v, rfl, rfl⟩
 case' inl =>
  have hG1 : G.length = 0 := by rw [hG0]; rfl
  simp +contextual -dsimp only [↓SD, SU, simprocAttr, Fg, hKp, hKl]
  refine ⟨by unfold maxLen; omega, fun v1 v6 => ?_⟩
  refine C0 (X := FrS) (fun q => ⟨[(0, .row 29 q.v (G.length + 1 + Df (ks.take q.j))), (3, .obj [.int .i64 n.kind, .int .i64 n.n, .str n.s, .Au, KA]), (5, .int .i64 G.length), (6, .ptr 6 v6 0 0), (19, .int .i64 ks.length), (20, .int .i64 q.j)], (29, ⟨q.v, false, 83, 4, G ++ [Z] ++ ovL nm q.vs (G.length + 1) (BO (G.length + 1) (ks.take q.j))⟩) :: (6, ⟨v6, false, 83, 4, [.agg [.int .i64 n.kind, .int .i64 n.n, .str n.s, .row K q.u q.j]]⟩) :: (K, ⟨q.u, false, 3, 1, (CZ (G.length + 1) (ks.take q.j)).map av⟩) :: ohL nm q.vs (G.length + 1) (BO (G.length + 1) (ks.take q.j))⟩) (fun q => q.j ≤ ks.length) (fun q => ks.length - q.j) ?_ ?_
  ·refine Ai.Fl 6 0 3 K 3 1 rfl rfl Nat.zero_lt_one rfl (by omega) fun z => ?_
   exact Ai.le ⟨⟨0, v1, z, fun _ => 0⟩, Nat.zero_le _, rfl⟩ (by simp +contextual -dsimp only [↓SD, SU, simprocAttr, List.take_zero, Df, hG1]) (by simp +contextual -dsimp only [↓SD, SU, simprocAttr, List.take_zero, BO, CZ, ovL, ohL, List.map_nil, List.append_nil, hG0, hZ, hKn, hKm])
 case' inr =>
  have t0 : List.take G.length G = G := List.take_length
  simp +contextual -dsimp only [↓SD, SU, simprocAttr, Fg, hKp, hKl, t0]
  refine ⟨⟨by omega, by unfold maxLen; omega⟩, fun v1 v6 => ?_⟩
  refine C0 (X := FrS) (fun q => ⟨[(0, .row 29 q.v (G.length + 1 + Df (ks.take q.j))), (3, .obj [.int .i64 n.kind, .int .i64 n.n, .str n.s, .Au, KA]), (5, .int .i64 G.length), (6, .ptr 6 v6 0 0), (19, .int .i64 ks.length), (20, .int .i64 q.j)], (29, ⟨q.v, false, 83, 4, G ++ [Z] ++ ovL nm q.vs (G.length + 1) (BO (G.length + 1) (ks.take q.j))⟩) :: (6, ⟨v6, false, 83, 4, [.agg [.int .i64 n.kind, .int .i64 n.n, .str n.s, .row K q.u q.j]]⟩) :: (K, ⟨q.u, false, 3, 1, (CZ (G.length + 1) (ks.take q.j)).map av⟩) :: ohL nm q.vs (G.length + 1) (BO (G.length + 1) (ks.take q.j))⟩) (fun q => q.j ≤ ks.length) (fun q => ks.length - q.j) ?_ ?_
  ·refine Ai.Fl 6 0 3 K 3 1 rfl rfl Nat.zero_lt_one rfl (by omega) fun z => ?_
   exact Ai.le ⟨⟨0, v1, z, fun _ => 0⟩, Nat.zero_le _, rfl⟩ (by simp +contextual -dsimp only [↓SD, SU, simprocAttr, List.take_zero, Df]) (by simp +contextual -dsimp only [↓SD, SU, simprocAttr, List.take_zero, BO, CZ, ovL, ohL, List.map_nil, List.append_nil, hZ, hKn, hKm])
 all_goals
  rintro ⟨j, a, b, vs⟩ hj
  dsimp only at hj ⊢
  have hTK : ∀ bx hp, Bt hp (ohL nm vs (G.length + 1) (BO (G.length + 1) (ks.take j))) → Bt ((K, bx) :: hp) (ohL nm vs (G.length + 1) (BO (G.length + 1) (ks.take j))) := fun bx hp h => AP.2 fun p hp' => by
   obtain ⟨q, hq0, hq⟩ := Et hp'
   rw [B5 (fun e' => by
    have h1 := hq.sib (e' ▸ hK ▸ InT.up (i := 0) .root)
    omega)]
   exact AP.1 h p hp'
  by_cases hlt : j < ks.length
  ·have e1 := hKa j hlt
   have b2 := XM ks j hlt
   have ht : ks.take (j + 1) = ks.take j ++ [ks[j]] := List.take_succ_eq_append_getElem hlt
   have hpx : G.length + 1 + Df (ks.take (j + 1)) = G.length + 1 + Df (ks.take j) + pxN ks[j] := by rw [ht, YR]; omega
   have hfl := LR (G.length + 1) (ks.take j)
   have hkp := Hk (G.length + 1) (ks.take j)
   rw [List.length_take, Nat.min_eq_left hj] at hkp
   have hL : (G ++ [Z] ++ ovL nm vs (G.length + 1) (BO (G.length + 1) (ks.take j))).length = G.length + 1 + Df (ks.take j) := by simp [hfl, Kd]; omega
   have C := ih ks[j] (List.getElem_mem hlt) (G ++ [Z] ++ ovL nm vs (G.length + 1) (BO (G.length + 1) (ks.take j))) (.row 29 a (G.length + 1 + Df (ks.take j))) [(29, ⟨a, false, 83, 4, G ++ [Z] ++ ovL nm vs (G.length + 1) (BO (G.length + 1) (ks.take j))⟩)] (.inr ⟨a, by rw [hL], rfl⟩) (by rw [hL]; omega)
   unfold Abj at C
   rw [hL] at C
   have hsn : BO (G.length + 1) (ks.take (j + 1)) = BO (G.length + 1) (ks.take j) ++ B9 (G.length + 1 + Df (ks.take j)) ks[j] := by rw [ht, LQ]
   have hks : (CZ (G.length + 1) (ks.take (j + 1))).map (av : Int → AV) = (CZ (G.length + 1) (ks.take j)).map av ++ [.int .i64 ((G.length : Int) + 1 + (Df (ks.take j) : Int))] := by rw [ht, LI, List.map_append]; rfl
   have hkm : ((CZ (G.length + 1) (ks.take j)).map (av : Int → AV)).length = j := by rw [List.length_map, hkp]
   have hkt : List.take j ((CZ (G.length + 1) (ks.take j)).map (av : Int → AV)) = (CZ (G.length + 1) (ks.take j)).map av := List.take_of_length_le (by rw [hkm]; exact Nat.le_refl _)
   generalize (CZ (G.length + 1) (ks.take j)).map (av : Int → AV) = KP at *
   generalize hX : BO (G.length + 1) (ks.take j) = X at *
   generalize hY : B9 (G.length + 1 + Df (ks.take j)) ks[j] = Y at *
   have hgl := fun vs1 => Pu (nm := nm) vs1 vs (G.length + 1) X Y
   rw [hfl] at hgl
   generalize hN : Df (ks.take j) = N at *
   obtain ⟨Q, hQ⟩ : ∃ Q, Q = G ++ [Z] ++ ovL nm vs (G.length + 1) X := ⟨_, rfl⟩
   rw [← hQ] at C hL ⊢
   have hTs : Bt (ohL nm vs (G.length + 1) X) (ohL nm vs (G.length + 1) X) := GN nm vs _ X
   have hKT : ∀ hp, Ay (ohL nm vs (G.length + 1) X ++ hp) K = Ay hp K := fun hp => Db fun p hp' e => by
    obtain ⟨q, hq0, hq⟩ := Et hp'
    have h1 := hq.sib (e ▸ hK ▸ InT.up (i := 0) .root)
    omega
   simp +contextual -dsimp only [↓SD, SU, simprocAttr, hlt, e1, hKn, hKm, hkm, hkt, false_and, D0, Ea, Hu, Es, V8]
   refine ⟨⟨by omega, by unfold maxLen; omega⟩, fun u' => ?_⟩
   refine Ao [29] C (by simp +contextual -dsimp only [↓SD, SU, simprocAttr, V8, false_and, hKn, hKm]) ?_
   rintro r hp' ⟨w, vs1, rfl, rfl⟩ H hH
   have h6 : Ay H 6 = some ⟨v6, false, 83, 4, [.agg [.int .i64 n.kind, .int .i64 n.n, .str n.s, .row K u' (j + 1)]]⟩ := by
    rw [hH, List.cons_append, B5 (by decide), QL, AaK (by decide)]
    show Ay (BU [29] _) 6 = _
    rw [Cp (by decide), Ft]
   have h29 : Ay H 29 = some ⟨w, false, 83, 4, Q ++ ovL nm vs1 (G.length + 1 + N) Y⟩ := by rw [hH]; exact Ft
   have hbig : ∀ p ∈ ohL nm vs1 (G.length + 1 + N) Y, p.1 ≠ K := fun p hp' e => by
    obtain ⟨q, hq0, hq⟩ := Et hp'
    have h1 := hq.sib (e ▸ hK ▸ InT.up (i := 0) .root)
    omega
   have hkk : Ay H K = some ⟨u', false, 3, 1, KP ++ [.int .i64 ((G.length : Int) + 1 + (N : Int))]⟩ := by
    rw [hH, List.cons_append, B5 (by omega), Db hbig, Cp (by simp; omega), B5 (by omega), Ft]
    simp [Int.natCast_add]
   have hlast : Bt H (ohL nm vs (G.length + 1) X ++ ohL nm vs1 (G.length + 1 + N) Y) := by
    have h1 := XS (nm := nm) (vs := vs1) (vs' := vs) (a := X) (b := Y) (i := G.length + 1) (m := G.length + 1 + N) (s := BU [29] ((6, ⟨v6, false, 83, 4, [.agg [.int .i64 n.kind, .int .i64 n.n, .str n.s, .row K u' (j + 1)]]⟩) :: (K, ⟨u', false, 3, 1, KP ++ [.int .i64 ((G.length + 1 + N : Nat) : Int)]⟩) :: (29, ⟨a, false, 83, 4, Q⟩) :: (6, ⟨v6, false, 83, 4, [.agg [.int .i64 n.kind, .int .i64 n.n, .str n.s, .row K b j]]⟩) :: (K, ⟨b, false, 3, 1, KP⟩) :: ohL nm vs (G.length + 1) X)) (by omega) (fun p hp => by
     obtain ⟨q, hq0, hq⟩ := Et hp
     have hge := hq.ge
     have hpk : K ≠ p.1 := fun e => by
      have h1 := hq.sib (e ▸ hK ▸ InT.up (i := 0) .root)
      omega
     rw [Cp (by simp; omega), B5 (by omega), B5 hpk, B5 (by omega), B5 (by omega), B5 hpk]
     exact AP.1 hTs p hp)
    refine AP.2 fun p hp => ?_
    have hge : 10000 ≤ p.1 := by
     rcases List.mem_append.1 hp with h | h
     ·obtain ⟨q, _, hq⟩ := Et h; exact hq.ge
     ·obtain ⟨q, _, hq⟩ := Et h; exact hq.ge
    rw [hH, List.cons_append, B5 (by omega)]
    exact AP.1 h1 p hp
   simp +contextual -dsimp only [↓SD, SU, simprocAttr, h29, h6, hkk, Int.natCast_add]
   refine ⟨by omega, Ai.le ⟨⟨j + 1, w, u', E7 nm (G.length + 1 + N) vs1 vs⟩, ⟨hlt, (by first | omega | (simp only; omega))⟩, rfl⟩ (by simp +contextual -dsimp only [↓SD, SU, simprocAttr, Int.natCast_add, hpx]) ?_⟩
   dsimp only
   rw [hsn, (hgl vs1).1, (hgl vs1).2, ← List.append_assoc, ← hQ, hks]
   simp +contextual -dsimp only [↓SD, SU, simprocAttr, h29, h6, hkk, hlast]
  ·obtain rfl : j = ks.length := by omega
   rw [List.take_length] at hTK ⊢
   have hkp := Hk (G.length + 1) ks
   have hfl := LR (G.length + 1) ks
   have hfx : B9 G.length (.mk n ks) = ⟨n.kind, n.n, n.s, CZ (G.length + 1) ks⟩ :: BO (G.length + 1) ks := by rw [B9]
   have hL : (G ++ [Z] ++ ovL nm vs (G.length + 1) (BO (G.length + 1) ks)).length = G.length + 1 + Df ks := by simp [hfl, Kd]; omega
   have hG : (G ++ [Z] ++ ovL nm vs (G.length + 1) (BO (G.length + 1) ks)).getD G.length .top = .agg [.int .i64 0, .int .i64 0, .str (bs []), .Au] := by simp [List.getD_eq_getElem?_getD, hZ]
   have hS : ∀ x, (G ++ [Z] ++ ovL nm vs (G.length + 1) (BO (G.length + 1) ks)).set G.length x = G ++ x :: ovL nm vs (G.length + 1) (BO (G.length + 1) ks) := fun x => by
    simp [List.set_append]
   have hlt2 : (G.length : Int) < (G.length : Int) + 1 + (Df ks : Int) := by omega
   have hlt3 : G.length < G.length + 1 + Df ks := by omega
   generalize hX : BO (G.length + 1) ks = X at *
   obtain ⟨Q, hQ⟩ : ∃ Q, Q = G ++ [Z] ++ ovL nm vs (G.length + 1) X := ⟨_, rfl⟩
   rw [← hQ] at hL hG hS ⊢
   obtain ⟨KP, hKP⟩ : ∃ KP, KP = CZ (G.length + 1) ks := ⟨_, rfl⟩
   rw [← hKP] at hkp hfx ⊢
   have hvs : E7 nm (G.length + 1) vs (fun _ => b) K = b := if_neg (fun ⟨i, hi, hin⟩ => by
    have := hin.sib (hK ▸ InT.up (i := 0) .root)
    omega)
   have hg3 := Nh (nm := nm) (m := G.length + 1) vs (fun _ => b) (G.length + 1) X (Nat.le_refl _)
   have hov : ovL nm (E7 nm (G.length + 1) vs (fun _ => b)) G.length (B9 G.length (.mk n ks)) = .agg [.int .i64 n.kind, .int .i64 n.n, .str n.s, .row K b ks.length] :: ovL nm vs (G.length + 1) X := by
    rw [hfx, ovL, hg3.1, R2, ← hK, hvs, ← hkp]
   have hoh : ohL nm (E7 nm (G.length + 1) vs (fun _ => b)) G.length (B9 G.length (.mk n ks)) = (K, ⟨b, false, 3, 1, KP.map av⟩) :: ohL nm vs (G.length + 1) X := by
    rw [hfx, ohL, hg3.2, Sb, Wo, ← hK, hvs]; rfl
   have hself : Bt (ohL nm vs (G.length + 1) X) (ohL nm vs (G.length + 1) X) := GN nm vs _ X
   have hlow : ∀ (k : Nat) (bx : Box) (hp : Hp), k < 10000 → Bt hp (ohL nm vs (G.length + 1) X) → Bt ((k, bx) :: hp) (ohL nm vs (G.length + 1) X) := fun k bx hp hk h => Ag h (fun p hp' => by obtain ⟨q, _, hq⟩ := Et hp'; exact hq.ge) hk
   simp +contextual -dsimp only [↓SD, SU, simprocAttr, Nat.lt_irrefl, hKn, hKm, hL, hG, hS, hlt2, hlt3, Nat.le_refl]
   refine Ai.post ((29, ⟨a, false, 83, 4, G ++ ovL nm (E7 nm (G.length + 1) vs (fun _ => b)) G.length (B9 G.length (.mk n ks))⟩) :: ohL nm (E7 nm (G.length + 1) vs (fun _ => b)) G.length (B9 G.length (.mk n ks))) ?_
   rw [hov, hoh]
   simp +contextual -dsimp only [↓SD, SU, simprocAttr, false_and, hKn, hKm]
   refine ⟨?_, a, _, by rw [ec, Nat.add_assoc], by rw [hov, hoh]⟩
   repeat (first | exact hself | refine hTK _ _ ?_ | refine hlow _ _ _ (by decide) ?_)
def Aco (K : Nat) (e : Px) (r : AV) (hp' : Hp) : Prop := ∃ vs, r = .row K (vs K) (B9 0 e).length ∧ hp' = oh K vs (B9 0 e)
theorem Sw (K : Nat) (e : Px) (hb : pxN e ≤ 1099511627776) : AW Tryz.prog 177 [.Au, psA e] [] (Aco K e) := by
 have C := U0 K e [] .Au [] (.inl ⟨rfl, rfl, rfl⟩) (by simpa using hb)
 refine Gq C ?_
 rintro r hp' ⟨v, vs, rfl, rfl⟩
 simp only [List.length_nil, List.nil_append, Nat.zero_add]
 refine Ai.ren 0 29 K (v := v) (n := pxN e) rfl Ft rfl fun v' => ?_
 obtain ⟨H', hH'⟩ : ∃ H', H' = ((K, ⟨v', false, 83, 4, ovL K vs 0 (B9 0 e)⟩) :: BU [29] ((29, ⟨v, false, 83, 4, ovL K vs 0 (B9 0 e)⟩) :: ohL K vs 0 (B9 0 e)) : Hp) := ⟨_, rfl⟩
 have hle := AaS (α := BD) (nm := K) (j := 29) (l := B9 0 e) (vs := vs) (by omega) hH'
 dsimp only
 rw [← hH']
 refine Ai.le (t := ⟨[(0, .row K v' (pxN e))], oh K (glue K (fun k => if k = K then v' else vs k) vs) (B9 0 e)⟩) ?_ (by simp +contextual -dsimp only [↓SD, SU, simprocAttr]) hle
 have h1 := (Qx (nm := K) (vs := vs) (v' := v') (B9 0 e)).1
 rw [Qs] at h1
 exact ⟨_, by rw [h1, Lg]; rfl, rfl⟩
theorem Qy {β : Type} [AVal β] [OVal β] (nm i : Nat) (vs : Nat → Nat) (x : β) : Ee (sub nm i) (oh (sub nm i) vs x) :=
 ⟨fun p hp => ⟨(OVal.inh hp).ge, OVal.inh hp⟩, OVal.self _ _ _, fun p hp => (OVal.free _ _ _ p hp).1⟩
theorem Y3 {A v' : Nat} {vs vs' : Nat → Nat} {l : List Pat} {q : Pat} {H : Hp} (h1 : Bt H (ohL A vs 0 l)) (h2 : Bt H (oh (sub A l.length) vs' q)) (h3 : Ay H A = some ⟨v', false, OVal.ty Pat, AVal.n Pat, ovL A vs 0 l ++ [ov (sub A l.length) vs' q]⟩) : ∃ vs6, Bt H (oh A vs6 (l ++ [q])) ∧ vs6 A = v' := by
 have g := Pu (nm := A) vs' vs 0 l [q]
 rw [Nat.zero_add] at g
 have o1 : ovL A vs' l.length [q] = [ov (sub A l.length) vs' q] := rfl
 have o2 : ohL A vs' l.length [q] = oh (sub A l.length) vs' q := by simp [ohL]
 rw [o1, o2] at g
 have f := Qx (nm := A) (vs := E7 A l.length vs' vs) (v' := v') (l ++ [q])
 refine ⟨glue A (fun k => if k = A then v' else E7 A l.length vs' vs k) (E7 A l.length vs' vs), ?_, ?_⟩
 ·rw [f.2, g.1, g.2, AO, AO]
  exact ⟨⟨h1, h2⟩, h3, trivial⟩
 ·have h4 := f.1
  rw [Qs] at h4
  injection h4
end Go.Proofs.YtoffpbehgncakaaGreat
