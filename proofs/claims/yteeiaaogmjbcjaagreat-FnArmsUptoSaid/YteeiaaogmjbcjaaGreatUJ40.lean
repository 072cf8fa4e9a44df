/-
 A PATTERN AND A VALUE, DRAWN: DrawHit. Conditions: none.
-/
import Derived.Test.YteeiaaogmjbcjaaGreatUHitD
import Derived.Test.YteeiaaogmjbcjaaGreatUJ18
import Derived.Test.YteeiaaogmjbcjaaGreatProg
import Derived.Test.YteeiaaogmjbcjaaGreatUAvDraw
set_option linter.unusedVariables false
set_option linter.unusedSimpArgs false
set_option maxRecDepth 100000
namespace Go.Proofs.YteeiaaogmjbcjaaGreat
open Go.RowKit Go.Proofs.YteeiaaogmjbcjaaGreat.Av Go.Proofs.YteeiaaogmjbcjaaGreat.Ml
open Go.Proofs.YteeiaaogmjbcjaaGreat.Av.AVal (av)
open OVal (ov oh on)

def AcL (q : Pat) : Prop := q.nodes.length ≤ 1210 ∧ ∀ x ∈ q.nodes, x.s.size ≤ 402 ∧ x.kids.length ≤ 3
theorem Zj (s t : Px) : (paA s).EF 0 (paA t).cells = paA t := by cases t with | mk n ks => rw [B7]; show (paA s).EF 0 [_, _, _, _] = _; rw [EX]
end Go.Proofs.YteeiaaogmjbcjaaGreat
set_option linter.unusedVariables false
set_option maxRecDepth 100000
namespace Go.Proofs.YteeiaaogmjbcjaaGreat
open Go.Proofs.YteeiaaogmjbcjaaGreat.Av

theorem Fp : Tryz.prog.follows .mixedOrders = true := by kernel_rfl

def Hs : Ir Tryz.prog 38 [(11, 7777), (14, 7777), (22, 7777), (25, 7777), (29, 7777), (34, 7777), (39, 7777), (43, 7777), (48, 7777)] [9999] 1 := ⟨_, _, Tryz.func38, Fp, by kernel_rfl, Az [] Tryz.progTables (by conv => lhs; cbv) (by kernel_rfl)⟩
def FX : Ir Tryz.prog 17 [(10, 7777), (14, 7777), (7, 7777)] [9999] 1 := ⟨_, _, Tryz.func17, Fp, by kernel_rfl, Az [] Tryz.progTables (by conv => lhs; cbv) (by kernel_rfl)⟩
def IB : Ir Tryz.prog 5 [(15, 7777), (18, 7777), (30, 7777)] [5,9] 1 := ⟨_, _, Tryz.func5, Fp, by kernel_rfl, Az [] Tryz.progTables (by conv => lhs; cbv) (by kernel_rfl)⟩
def IA : Ir Tryz.prog 20 [] [] 2 := ⟨_, _, Tryz.func20, Fp, by kernel_rfl, Az [] Tryz.progTables (by conv => lhs; cbv) (by kernel_rfl)⟩
end Go.Proofs.YteeiaaogmjbcjaaGreat
set_option linter.unusedVariables false
set_option linter.unusedSimpArgs false
set_option maxRecDepth 100000
namespace Go.Proofs.YteeiaaogmjbcjaaGreat
open Go.RowKit Go.Proofs.YteeiaaogmjbcjaaGreat.Av Go.Proofs.YteeiaaogmjbcjaaGreat.Ml
open Go.Proofs.YteeiaaogmjbcjaaGreat.Av.AVal (av)
open OVal (ov oh on)

def Vo (l : List Pat) : Prop := ∃ a b : List Pat, l = a ++ b ∧ a.length ≤ 4 ∧ b.length ≤ 1 ∧ (∀ q ∈ a, q.nodes.length ≤ 138 ∧ ∀ x ∈ q.nodes, x.s.size ≤ 100 ∧ x.kids.length ≤ 2) ∧ ∀ q ∈ b, AcL q
def AcV (c : List UInt8) (v : Nat) (r : AV) (hp' : Hp) : Prop := ∃ (l : List Pat) (t : Px) (i : Nat) (h : Int), r = .tup [.sl (l.map av), av (⟨Z3 t⟩ : Data)] ∧ DT 4 t ∧ Vo l ∧ Dh c i h ∧ hp' = [(2000, Bp c v i h)]
theorem Yn {P : Go.Program} {f : FuncId} {args : List AV} {hp : Hp} {Post Post2 : AV → Hp → Prop} (h : AH P f args hp Post) (hg : ∀ r hp', Post r hp' → Post2 r hp') : AH P f args hp Post2 := by
 obtain ⟨hc, h⟩ := h
 exact ⟨hc, fun S w μ vs hW hv => (h S w μ vs hW hv).mono fun e w' ⟨v, r, hp', S', μ', he, hpst, hr⟩ => ⟨v, r, hp', S', μ', he, hg _ _ hpst, hr⟩⟩
def Ac9 (c : List UInt8) (v : Nat) (r : AV) (hp' : Hp) : Prop := ∃ (e : Px) (m : Int) (i : Nat) (h : Int), r = .tup [psA e, .int .i64 m] ∧ PxW 100 e ∧ pxN e ≤ 138 ∧ Dh c i h ∧ hp' = [(2000, Bp c v i h)]
theorem Ik (c : List UInt8) (v i : Nat) (h : Int) (hk : Dh c i h) (t : Px) (ht : DT 4 t) : AH Tryz.prog 23 [.ptr 2000 v 0 0, paA t, .int .i64 0] [(2000, Bp c v i h)] (Ac9 c v) := by
 have hn := AcD ht
 exact Yn (N6 c v t (Ac8 ht) 0 i h hk (by omega) (by omega)) fun r hp' ⟨e, m, i, h, h1, h2, h3, h4, h5, h6⟩ => ⟨e, m, i, h, h1, h2, by omega, h5, h6⟩
theorem Nb {ks : List Nat} {H : Hp} {k : Nat} {b : Box} (hks : ∀ k ∈ ks, 10000 ≤ k) (hk : k < 10000) (h : Aw H k = some b) : Aw (B9 ks H) k = some b := (Cl fun e => by have := hks _ e; omega).trans h
structure AcU where
 n : Nat
 ps : List Pat
 u : Nat
 i : Nat
 h : Int
set_option maxHeartbeats 4000000 in
theorem UF (c : List UInt8) (v i : Nat) (h : Int) (hk : Dh c i h) : AH Tryz.prog 38 [.ptr 2000 v 0 0] [(2000, Bp c v i h)] (AcV c v) := by
 refine Hs.H rfl ?_
 have C4 := fun i h hk => UG c v 4 (by omega) i h hk
 rw [show ((4 : Int) - ((4 : Nat) : Int)) = 0 by omega] at C4
 simp +contextual -dsimp only [↓SD, SU, simprocAttr, CFB, Hs]
 intro v3
 refine Ac [2000] (C4 i h hk) (by simp +contextual -dsimp only [↓SD, SU, simprocAttr]) ?_
 clear hk
 rintro r hp' ⟨t, i, h, rfl, ht, hk, rfl⟩
 simp +contextual -dsimp only [↓SD, SU, simprocAttr, CFB, PAB]
 intro v4 v12
 refine Ac [2000] (AL c v _ _ hk 4 (by omega)) (by simp +contextual -dsimp only [↓SD, SU, simprocAttr]) ?_
 clear hk
 rintro r hp' ⟨k, i, h, rfl, hkk, hk, rfl⟩
 obtain ⟨k0, k1⟩ := hkk.in (by omega)
 obtain ⟨m, hm⟩ : ∃ m : Nat, 1 + k = m := ⟨(1 + k).toNat, by omega⟩
 simp +contextual -dsimp only [↓SD, SU, simprocAttr, CFB, hm]
 refine ⟨by omega, ?_⟩
 refine AG (X := AcU) (fun x => ⟨[(0, .ptr 2000 v 0 0), (3, .ptr 3 v3 0 0), (4, .ptr 4 v4 0 0), (5, .row 12 x.u x.ps.length), (6, .int .i64 x.n)], [(2000, Bp c v x.i x.h), (12, ⟨x.u, false, 25, 1, x.ps.map av⟩), (4, ⟨v4, false, 58, 4, [paA t]⟩), (3, ⟨v3, false, 28, 1, [.agg [.Au]]⟩)]⟩) (fun x => x.ps.length + x.n ≤ 4 ∧ (∀ q ∈ x.ps, q.nodes.length ≤ 138 ∧ ∀ y ∈ q.nodes, y.s.size ≤ 100 ∧ y.kids.length ≤ 2) ∧ Dh c x.i x.h) (fun x => x.n) ⟨m, [], v12, i, h⟩ ⟨by dsimp only; simp; omega, fun q hq => (by cases hq), hk⟩ (by simp +contextual -dsimp only [↓SD, SU, simprocAttr]) (by simp +contextual -dsimp only [↓SD, SU, simprocAttr, List.map_nil]) ?_
 clear hk hkk k0 k1 hm
 rintro ⟨n, ps, u, i, h⟩ ⟨hn, hps, hk⟩
 dsimp only at hn hps hk ⊢
 by_cases hlt : 0 < n
 ·have hlt' : (0 : Int) < n := by omega
  simp +contextual -dsimp only [↓SD, SU, simprocAttr, CFB, hlt', PAB]
  intro v7
  refine Ac [2000] (AL c v _ _ hk 3 (by omega)) (by simp +contextual -dsimp only [↓SD, SU, simprocAttr]) ?_
  clear hk
  rintro r hp' ⟨k, i, h, rfl, hkk, hk, rfl⟩
  by_cases hz : k = 0
  case' pos =>
   have ez := eq_true hz
   simp +contextual -dsimp only [↓SD, SU, simprocAttr, CFB, ez]
   refine Ac [2000] (C4 i h hk) (by simp +contextual -dsimp only [↓SD, SU, simprocAttr]) ?_
   clear hk
   rintro r hp' ⟨t2, i, h, rfl, ht2, hk, rfl⟩
   have CP := Ik c v i h hk t2 ht2
   simp +contextual -dsimp only [↓SD, SU, simprocAttr, CFB, PAB, Zj]
  case' neg =>
   have ez := eq_false hz
   have CP := Ik c v i h hk t ht
   simp +contextual -dsimp only [↓SD, SU, simprocAttr, CFB, ez, PAB, Zj]
  all_goals
   refine Ac [2000] CP (by simp +contextual -dsimp only [↓SD, SU, simprocAttr, BF]) ?_
   clear hk CP hkk
   rintro r hp' ⟨e, m2, i, h, rfl, he, hne, hk, rfl⟩
   simp +contextual -dsimp only [↓SD, SU, simprocAttr, CFB, PAB, CX, Gc, CZ, Cz, EY]
   intro v8
   obtain ⟨K, hK⟩ : ∃ K, K = sub 1 0 := ⟨_, rfl⟩
   refine Ak [] (Ly K e (by omega)) (by simp +contextual -dsimp only [↓SD, SU, simprocAttr, Gc]) ?_
   rintro r hp' ⟨vs, rfl, rfl⟩ H hH
   rw [Af] at hH
   have hD : F7 1 (oh K vs (A2 0 e)) := by rw [hK]; exact Ew (ML 1 0 vs (A2 0 e))
   have hkon : ∀ k ∈ on K (A2 0 e), 10000 ≤ k := fun k h => by
    have h1 := (OVal.inn K _ k h).le
    have := BQ 1 0
    omega
   have hlend := OVal.KV K vs (A2 0 e)
   rw [Fl] at hlend
   have hq0 := Ee (q := ⟨A2 0 e⟩) rfl he
   have hfl := FC e 0
   have hself := OVal.self K vs (A2 0 e)
   obtain ⟨T, hT⟩ : ∃ T, T = oh K vs (A2 0 e) := ⟨_, rfl⟩
   rw [← hT] at hD hlend hH
   have hTl : ∀ k, k < 10000 → ∀ hp, Aw (T ++ hp) k = Aw hp k := fun k hk hp => BV fun p hp' => by have := hD.far p hp'; omega
   have hfar := hD.far
   have hpl : List.take ps.length (ps.map (av : Pat → AV)) = ps.map av := List.take_of_length_le (by simp)
   have hpm : (ps.map (av : Pat → AV)).length = ps.length := by simp
   have hKT : ∀ hp, Aw (T ++ hp) K = some ⟨vs K, false, 36, 4, ovL K vs 0 (A2 0 e)⟩ := fun hp => IK (by rw [hT]; exact Fy hself)
   subst hH
   simp +contextual -dsimp only [↓SD, SU, simprocAttr, CFB, hTl, hpl, hpm, hKT]
   refine ⟨⟨by omega, by unfold maxLen; omega⟩, fun w => ⟨by omega, ?_⟩⟩
   have hn1 : ((n - 1 : Nat) : Int) = n - 1 := by omega
   have hnew : ∀ q ∈ ps ++ [(⟨A2 0 e⟩ : Pat)], q.nodes.length ≤ 138 ∧ ∀ y ∈ q.nodes, y.s.size ≤ 100 ∧ y.kids.length ≤ 2 := fun q hq => by
    rcases List.mem_append.1 hq with hq | hq
    ·exact hps q hq
    ·rw [List.mem_singleton.1 hq]
     exact ⟨by dsimp only; omega, hq0⟩
   refine Ai.Abe (on K (A2 0 e)) ?_
   refine Ai.RH 12 (b := ⟨w, false, 25, 1, ps.map av ++ [.agg [.row K (vs K) (A2 0 e).length]]⟩) (Nb hkon (by decide) Cm) ?_
   refine Ai.le ⟨⟨n - 1, ps ++ [⟨A2 0 e⟩], w, i, h⟩, ⟨⟨by dsimp only; rw [List.length_append]; simp only [List.length_cons, List.length_nil]; omega, hnew, hk⟩, (by first | omega | (simp only; omega))⟩, rfl⟩ (by simp +contextual -dsimp only [↓SD, SU, simprocAttr, hn1, List.length_append]) ?_
   refine ⟨(A4 (by decide)).trans (Nb hkon (by decide) (by simp +contextual -dsimp only [↓SD, SU, simprocAttr, hTl])), Cm.trans ?_, (A4 (by decide)).trans (Nb hkon (by decide) (by simp +contextual -dsimp only [↓SD, SU, simprocAttr, hTl])), (A4 (by decide)).trans (Nb hkon (by decide) (by simp +contextual -dsimp only [↓SD, SU, simprocAttr, hTl])), trivial⟩
   have h1 := fun H hH => hlend H hH
   have h2 : ∀ (H : Hp), Bf H T → ((AV.agg [.row K (vs K) (A2 0 e).length]).pur (B9 (on K (A2 0 e)) H)) = av (⟨A2 0 e⟩ : Pat) := fun H hH => by
    rw [IU]
    show AV.agg [AV.Bs _ _] = _
    have := hlend H hH
    rw [show AV.Bs (B9 (on K (A2 0 e)) H) (.row K (vs K) (A2 0 e).length) = av (A2 0 e) from this]
    rfl
   dsimp only
   rw [List.map_append, Ab, List.map_cons, List.map_nil, h2 _ (by repeat (first | exact Eu hD.2.1 | refine Ah ?_ hfar (by decide))), List.map_append]
   rfl
 ·obtain rfl : n = 0 := by omega
  simp +contextual -dsimp only [↓SD, SU, simprocAttr, CFB, Int.lt_irrefl]
  refine Ac [2000] (AL c v _ _ hk 14 (by omega)) (by simp +contextual -dsimp only [↓SD, SU, simprocAttr]) ?_
  clear hk
  rintro r hp' ⟨k, i, h, rfl, hkk, hk, rfl⟩
  have hn := AcD ht
  have CL := XW t [] .Au [] (.inl ⟨rfl, rfl, rfl⟩) (by simp; omega)
  unfold Aay at CL
  simp only [List.length_nil, Nat.zero_add, List.nil_append] at CL
  have hpl : List.take ps.length (ps.map (av : Pat → AV)) = ps.map av := List.take_of_length_le (by simp)
  have hpm : (ps.map (av : Pat → AV)).length = ps.length := by simp
  have hfl : ((A2 0 t).map (av : A0 → AV)).length = pxN t := by rw [List.length_map, FC]
  have hft : List.take (pxN t) ((A2 0 t).map (av : A0 → AV)) = (A2 0 t).map av := List.take_of_length_le (by rw [hfl]; exact Nat.le_refl _)
  by_cases hz : k = 0
  ·have ez := eq_true hz
   simp +contextual -dsimp only [↓SD, SU, simprocAttr, CFB, ez]
   refine Ac [2000] (UH c v i h hk) (by simp +contextual -dsimp only [↓SD, SU, simprocAttr]) ?_
   clear hk
   rintro r hp' ⟨q, i, h, rfl, hk, rfl, hq1, hq2⟩
   simp +contextual -dsimp only [↓SD, SU, simprocAttr, CFB, IU, hpl, hpm, PAB]
   refine ⟨⟨by omega, by unfold maxLen; omega⟩, fun u' => ?_⟩
   refine Ac [] CL (by simp +contextual -dsimp only [↓SD, SU, simprocAttr, BF]) ?_
   rintro r hp' ⟨w, rfl, rfl⟩
   have e2 : ps.map (av : Pat → AV) ++ [.agg [.sl (q.nodes.map av)]] = (ps ++ [q]).map av := by rw [List.map_append]; rfl
   have e3 : ps.length + 1 = (ps ++ [q]).length := by simp
   have e4 : List.take (ps ++ [q]).length ((ps ++ [q]).map (av : Pat → AV)) = (ps ++ [q]).map av := List.take_of_length_le (by simp)
   have e5 : ((ps ++ [q]).map (av : Pat → AV)).length = (ps ++ [q]).length := by simp
   have e6 := fun hp => Ab (ps ++ [q]) hp
   have e7 := fun hp => Ab (A2 0 t) hp
   simp +contextual -dsimp only [↓SD, SU, simprocAttr, CFB]
   rw [e2, e3]
   generalize hQ : (ps ++ [q]).map (av : Pat → AV) = Q at *
   refine Ai.frz 12 (Ai.frz 13 (Ai.post [(2000, Bp c v i h)] ?_))
   simp +contextual -dsimp only [↓SD, SU, simprocAttr, CFB, e4, e5, e6, e7, hfl, hft, Nat.le_refl]
   subst hQ
   exact ⟨ps ++ [q], t, i, h, by rw [S9]; rfl, ht, ⟨ps, [q], rfl, by omega, by simp, hps, fun x hx => by rw [List.mem_singleton.1 hx]; exact ⟨hq1, hq2⟩⟩, hk, rfl⟩
  ·have ez := eq_false hz
   simp +contextual -dsimp only [↓SD, SU, simprocAttr, CFB, ez, PAB]
   refine Ac [] CL (by simp +contextual -dsimp only [↓SD, SU, simprocAttr, BF]) ?_
   rintro r hp' ⟨w, rfl, rfl⟩
   simp +contextual -dsimp only [↓SD, SU, simprocAttr, CFB]
   have e6 := fun hp => Ab ps hp
   have e7 := fun hp => Ab (A2 0 t) hp
   refine Ai.frz 12 (Ai.frz 13 (Ai.post [(2000, Bp c v i h)] ?_))
   simp +contextual -dsimp only [↓SD, SU, simprocAttr, CFB, hpl, hpm, e6, e7, hfl, hft, Nat.le_refl]
   exact ⟨ps, t, i, h, by rw [S9]; rfl, ht, ⟨ps, [], by simp, by omega, by simp, hps, fun x hx => (by cases hx)⟩, hk, rfl⟩
def AcX (r : AV) (hp' : Hp) : Prop := ∃ l : List Pat, r = .sl (l.map av) ∧ Vo l ∧ hp' = []
theorem YP {S : Nat → Prop} {w : World} {μ : Mu} {v : Value} (h : VR S w μ v .Au) : VR S w μ v (.sl []) := by
 cases h
 exact .sl0 none 0 (Nat.zero_le _)
theorem Ai.Acs {s : St} {T : St → Prop} (i : Nat) (hi : Ba s.fr i = .Au) (h : Ai ⟨(i, .sl []) :: s.fr, s.hp⟩ T) : Ai s T := by
 refine ⟨?_⟩
 rintro E nt a w ⟨hd, hn, S, μ, hw, hf⟩
 refine h.run E nt a w ⟨hd, hn, S, μ, hw, fun t => ?_⟩
 simp only [Ba]
 split
 ·rename_i e
  subst e
  have h1 := hf i
  rw [hi] at h1
  exact YP h1
 ·exact hf t
theorem Og (c : List UInt8) (hc : c.length ≤ 1048576) : AH Tryz.prog 17 [.sl (c.map av)] [] AcX := by
 refine FX.H rfl ?_
 simp +contextual -dsimp only [↓SD, SU, simprocAttr, CFB, FX]
 refine Ac [] (X7 c hc) (by simp +contextual -dsimp only [↓SD, SU, simprocAttr]) ?_
 rintro r hp' ⟨v, i, h, rfl, hk, rfl⟩
 simp +contextual -dsimp only [↓SD, SU, simprocAttr, CFB]
 refine Ac [2000] (UF c v i h hk) (by simp +contextual -dsimp only [↓SD, SU, simprocAttr]) ?_
 clear hk
 rintro r hp' ⟨l, t, i, h, rfl, ht, hl, hk, rfl⟩
 simp +contextual -dsimp only [↓SD, SU, simprocAttr, CFB, Abk]
 intro v5
 refine Ac [2000] (AL c v _ _ hk 20 (by omega)) (by simp +contextual -dsimp only [↓SD, SU, simprocAttr]) ?_
 clear hk
 rintro r hp' ⟨k, i, h, rfl, hkk, hk, rfl⟩
 by_cases hz : k = 0
 ·have ez := eq_true hz
  simp +contextual -dsimp only [↓SD, SU, simprocAttr, CFB, ez]
  refine Ai.Acs 2 rfl (Ai.post [] ?_)
  simp +contextual -dsimp only [↓SD, SU, simprocAttr, CFB]
  exact ⟨[], rfl, ⟨[], [], rfl, by simp, by simp, fun q hq => (by cases hq), fun q hq => (by cases hq)⟩, rfl⟩
 ·have ez := eq_false hz
  simp +contextual -dsimp only [↓SD, SU, simprocAttr, CFB, ez]
  refine Ai.post [] ?_
  have e := fun hp => Ab l hp
  simp +contextual -dsimp only [↓SD, SU, simprocAttr, CFB, e]
  exact ⟨l, rfl, hl, rfl⟩
end Go.Proofs.YteeiaaogmjbcjaaGreat
