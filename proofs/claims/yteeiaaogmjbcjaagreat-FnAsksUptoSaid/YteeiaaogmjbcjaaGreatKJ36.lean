/-
 A PATTERN AND A VALUE, DRAWN: DrawHit. Conditions: none.
-/
import Derived.Test.YteeiaaogmjbcjaaGreatKHitD
import Derived.Test.YteeiaaogmjbcjaaGreatKJ14
import Derived.Test.YteeiaaogmjbcjaaGreatProg
import Derived.Test.YteeiaaogmjbcjaaGreatKAvDraw
import Derived.Test.YteeiaaogmjbcjaaGreatKJ11
import Derived.Test.YteeiaaogmjbcjaaGreatKJ07
set_option linter.unusedVariables false
set_option linter.unusedSimpArgs false
set_option maxRecDepth 100000
namespace Go.Proofs.YteeiaaogmjbcjaaGreat
open Go.RowKit Go.Proofs.YteeiaaogmjbcjaaGreat.Av Go.Proofs.YteeiaaogmjbcjaaGreat.Ml
open Go.Proofs.YteeiaaogmjbcjaaGreat.Av.AVal (av)
open OVal (ov oh on)

def Ad7 (q : Pat) : Prop := q.nodes.length ≤ 1210 ∧ ∀ x ∈ q.nodes, x.s.size ≤ 402 ∧ x.kids.length ≤ 3
theorem Aay (s t : Px) : (paA s).Fl 0 (paA t).cells = paA t := by cases t with | mk n ks => rw [Co]; show (paA s).Fl 0 [_, _, _, _] = _; rw [FD]
end Go.Proofs.YteeiaaogmjbcjaaGreat
set_option linter.unusedVariables false
set_option maxRecDepth 100000
namespace Go.Proofs.YteeiaaogmjbcjaaGreat
open Go.Proofs.YteeiaaogmjbcjaaGreat.Av

theorem Il : Tryz.prog.follows .mixedOrders = true := by kernel_rfl

def Iy : Ir Tryz.prog 38 [(11, 7777), (14, 7777), (22, 7777), (25, 7777), (29, 7777), (34, 7777), (39, 7777), (43, 7777), (48, 7777)] [9999] 1 := ⟨_, _, Tryz.func38, Il, by kernel_rfl, Ay [] Tryz.progTables (by conv => lhs; cbv) (by kernel_rfl)⟩
def FI : Ir Tryz.prog 10 [(11, 7777), (8, 7777)] [9999] 1 := ⟨_, _, Tryz.func10, Il, by kernel_rfl, Ay [] Tryz.progTables (by conv => lhs; cbv) (by kernel_rfl)⟩
def JB : Ir Tryz.prog 4 [(15, 7777), (20, 7777)] [5] 1 := ⟨_, _, Tryz.func4, Il, by kernel_rfl, Ay [] Tryz.progTables (by conv => lhs; cbv) (by kernel_rfl)⟩
end Go.Proofs.YteeiaaogmjbcjaaGreat
set_option linter.unusedVariables false
set_option linter.unusedSimpArgs false
set_option maxRecDepth 100000
namespace Go.Proofs.YteeiaaogmjbcjaaGreat
open Go.RowKit Go.Proofs.YteeiaaogmjbcjaaGreat.Av Go.Proofs.YteeiaaogmjbcjaaGreat.Ml
open Go.Proofs.YteeiaaogmjbcjaaGreat.Av.AVal (av)
open OVal (ov oh on)

def WC (l : List Pat) : Prop := ∃ a b : List Pat, l = a ++ b ∧ a.length ≤ 4 ∧ b.length ≤ 1 ∧ (∀ q ∈ a, q.nodes.length ≤ 138 ∧ ∀ x ∈ q.nodes, x.s.size ≤ 100 ∧ x.kids.length ≤ 2) ∧ ∀ q ∈ b, Ad7 q
def Aeh (c : List UInt8) (v : Nat) (r : AV) (hp' : Hp) : Prop := ∃ (l : List Pat) (t : Px) (i : Nat) (h : Int), r = .tup [.sl (l.map av), av (⟨BI t⟩ : Data)] ∧ DT 4 t ∧ WC l ∧ DM c i h ∧ hp' = [(2000, BE c v i h)]
theorem ZK {P : Go.Program} {f : FuncId} {args : List AV} {hp : Hp} {Post Post2 : AV → Hp → Prop} (h : AO P f args hp Post) (hg : ∀ r hp', Post r hp' → Post2 r hp') : AO P f args hp Post2 := by
 obtain ⟨hc, h⟩ := h
 exact ⟨hc, fun S w μ vs hW hv => (h S w μ vs hW hv).mono fun e w' ⟨v, r, hp', S', μ', he, hpst, hr⟩ => ⟨v, r, hp', S', μ', he, hg _ _ hpst, hr⟩⟩
def Aet (c : List UInt8) (v : Nat) (r : AV) (hp' : Hp) : Prop := ∃ (e : Px) (m : Int) (i : Nat) (h : Int), r = .tup [psA e, .int .i64 m] ∧ PxW 100 e ∧ pxN e ≤ 138 ∧ DM c i h ∧ hp' = [(2000, BE c v i h)]
theorem Jn (c : List UInt8) (v i : Nat) (h : Int) (hk : DM c i h) (t : Px) (ht : DT 4 t) : AO Tryz.prog 23 [.ptr 2000 v 0 0, paA t, .int .i64 0] [(2000, BE c v i h)] (Aet c v) := by
 have hn := AcC ht
 exact ZK (Po c v t (Adr ht) 0 i h hk (by omega) (by omega)) fun r hp' ⟨e, m, i, h, h1, h2, h3, h4, h5, h6⟩ => ⟨e, m, i, h, h1, h2, by omega, h5, h6⟩
theorem L7 {ks : List Nat} {H : Hp} {k : Nat} {b : Box} (hks : ∀ k ∈ ks, 10000 ≤ k) (hk : k < 10000) (h : AA H k = some b) : AA (Cr ks H) k = some b := (CZ fun e => by have := hks _ e; omega).trans h
structure Aeg where
 n : Nat
 ps : List Pat
 u : Nat
 i : Nat
 h : Int
set_option maxHeartbeats 4000000 in
theorem VO (c : List UInt8) (v i : Nat) (h : Int) (hk : DM c i h) : AO Tryz.prog 38 [.ptr 2000 v 0 0] [(2000, BE c v i h)] (Aeh c v) := by
 refine Iy.H rfl ?_
 have C4 := fun i h hk => VQ c v 4 (by omega) i h hk
 rw [show ((4 : Int) - ((4 : Nat) : Int)) = 0 by omega] at C4
 simp +contextual -dsimp only [↓SD, SU, simprocAttr, CFB, Iy]
 intro v3
 refine Ac [2000] (C4 i h hk) (by simp +contextual -dsimp only [↓SD, SU, simprocAttr]) ?_
 clear hk
 rintro r hp' ⟨t, i, h, rfl, ht, hk, rfl⟩
 simp +contextual -dsimp only [↓SD, SU, simprocAttr, CFB, PAB]
 intro v4 v12
 refine Ac [2000] (AR c v _ _ hk 4 (by omega)) (by simp +contextual -dsimp only [↓SD, SU, simprocAttr]) ?_
 clear hk
 rintro r hp' ⟨k, i, h, rfl, hkk, hk, rfl⟩
 obtain ⟨k0, k1⟩ := hkk.in (by omega)
 obtain ⟨m, hm⟩ : ∃ m : Nat, 1 + k = m := ⟨(1 + k).toNat, by omega⟩
 simp +contextual -dsimp only [↓SD, SU, simprocAttr, CFB, hm]
 refine ⟨by omega, ?_⟩
 refine AF (X := Aeg) (fun x => ⟨[(0, .ptr 2000 v 0 0), (3, .ptr 3 v3 0 0), (4, .ptr 4 v4 0 0), (5, .row 12 x.u x.ps.length), (6, .int .i64 x.n)], [(2000, BE c v x.i x.h), (12, ⟨x.u, false, 25, 1, x.ps.map av⟩), (4, ⟨v4, false, 58, 4, [paA t]⟩), (3, ⟨v3, false, 28, 1, [.agg [.Aq]]⟩)]⟩) (fun x => x.ps.length + x.n ≤ 4 ∧ (∀ q ∈ x.ps, q.nodes.length ≤ 138 ∧ ∀ y ∈ q.nodes, y.s.size ≤ 100 ∧ y.kids.length ≤ 2) ∧ DM c x.i x.h) (fun x => x.n) ⟨m, [], v12, i, h⟩ ⟨by dsimp only; simp; omega, fun q hq => (by cases hq), hk⟩ (by simp +contextual -dsimp only [↓SD, SU, simprocAttr]) (by simp +contextual -dsimp only [↓SD, SU, simprocAttr, List.map_nil]) ?_
 clear hk hkk k0 k1 hm
 rintro ⟨n, ps, u, i, h⟩ ⟨hn, hps, hk⟩
 dsimp only at hn hps hk ⊢
 by_cases hlt : 0 < n
 ·have hlt' : (0 : Int) < n := by omega
  simp +contextual -dsimp only [↓SD, SU, simprocAttr, CFB, hlt', PAB]
  intro v7
  refine Ac [2000] (AR c v _ _ hk 3 (by omega)) (by simp +contextual -dsimp only [↓SD, SU, simprocAttr]) ?_
  clear hk
  rintro r hp' ⟨k, i, h, rfl, hkk, hk, rfl⟩
  by_cases hz : k = 0
  case' pos =>
   have ez := eq_true hz
   simp +contextual -dsimp only [↓SD, SU, simprocAttr, CFB, ez]
   refine Ac [2000] (C4 i h hk) (by simp +contextual -dsimp only [↓SD, SU, simprocAttr]) ?_
   clear hk
   rintro r hp' ⟨t2, i, h, rfl, ht2, hk, rfl⟩
   have CP := Jn c v i h hk t2 ht2
   simp +contextual -dsimp only [↓SD, SU, simprocAttr, CFB, PAB, Aay]
  case' neg =>
   have ez := eq_false hz
   have CP := Jn c v i h hk t ht
   simp +contextual -dsimp only [↓SD, SU, simprocAttr, CFB, ez, PAB, Aay]
  all_goals
   refine Ac [2000] CP (by simp +contextual -dsimp only [↓SD, SU, simprocAttr, BR]) ?_
   clear hk CP hkk
   rintro r hp' ⟨e, m2, i, h, rfl, he, hne, hk, rfl⟩
   simp +contextual -dsimp only [↓SD, SU, simprocAttr, CFB, PAB, Dv, G0, Dw, Dl, FE]
   intro v8
   obtain ⟨K, hK⟩ : ∃ K, K = sub 1 0 := ⟨_, rfl⟩
   refine Al [] (MG K e (by omega)) (by simp +contextual -dsimp only [↓SD, SU, simprocAttr, G0]) ?_
   rintro r hp' ⟨vs, rfl, rfl⟩ H hH
   rw [Ag] at hH
   have hD : GV 1 (oh K vs (AL 0 e)) := by rw [hK]; exact Fe (NV 1 0 vs (AL 0 e))
   have hkon : ∀ k ∈ on K (AL 0 e), 10000 ≤ k := fun k h => by
    have h1 := (OVal.inn K _ k h).le
    have := B5 1 0
    omega
   have hlend := OVal.L0 K vs (AL 0 e)
   rw [La] at hlend
   have hq0 := Eo (q := ⟨AL 0 e⟩) rfl he
   have hfl := Cc e 0
   have hself := OVal.self K vs (AL 0 e)
   obtain ⟨T, hT⟩ : ∃ T, T = oh K vs (AL 0 e) := ⟨_, rfl⟩
   rw [← hT] at hD hlend hH
   have hTl : ∀ k, k < 10000 → ∀ hp, AA (T ++ hp) k = AA hp k := fun k hk hp => Ca fun p hp' => by have := hD.far p hp'; omega
   have hfar := hD.far
   have hpl : List.take ps.length (ps.map (av : Pat → AV)) = ps.map av := List.take_of_length_le (by simp)
   have hpm : (ps.map (av : Pat → AV)).length = ps.length := by simp
   have hKT : ∀ hp, AA (T ++ hp) K = some ⟨vs K, false, 36, 4, ovL K vs 0 (AL 0 e)⟩ := fun hp => JN (by rw [hT]; exact Ge hself)
   subst hH
   simp +contextual -dsimp only [↓SD, SU, simprocAttr, CFB, hTl, hpl, hpm, hKT]
   refine ⟨⟨by omega, by unfold maxLen; omega⟩, fun w => ⟨by omega, ?_⟩⟩
   have hn1 : ((n - 1 : Nat) : Int) = n - 1 := by omega
   have hnew : ∀ q ∈ ps ++ [(⟨AL 0 e⟩ : Pat)], q.nodes.length ≤ 138 ∧ ∀ y ∈ q.nodes, y.s.size ≤ 100 ∧ y.kids.length ≤ 2 := fun q hq => by
    rcases List.mem_append.1 hq with hq | hq
    ·exact hps q hq
    ·rw [List.mem_singleton.1 hq]
     exact ⟨by dsimp only; omega, hq0⟩
   refine Ah.Acy (on K (AL 0 e)) ?_
   refine Ah.SQ 12 (b := ⟨w, false, 25, 1, ps.map av ++ [.agg [.row K (vs K) (AL 0 e).length]]⟩) (L7 hkon (by decide) Dt) ?_
   refine Ah.le ⟨⟨n - 1, ps ++ [⟨AL 0 e⟩], w, i, h⟩, ⟨⟨by dsimp only; rw [List.length_append]; simp only [List.length_cons, List.length_nil]; omega, hnew, hk⟩, (by first | omega | (simp only; omega))⟩, rfl⟩ (by simp +contextual -dsimp only [↓SD, SU, simprocAttr, hn1, List.length_append]) ?_
   refine ⟨(Bc (by decide)).trans (L7 hkon (by decide) (by simp +contextual -dsimp only [↓SD, SU, simprocAttr, hTl])), Dt.trans ?_, (Bc (by decide)).trans (L7 hkon (by decide) (by simp +contextual -dsimp only [↓SD, SU, simprocAttr, hTl])), (Bc (by decide)).trans (L7 hkon (by decide) (by simp +contextual -dsimp only [↓SD, SU, simprocAttr, hTl])), trivial⟩
   have h1 := fun H hH => hlend H hH
   have h2 : ∀ (H : Hp), Bu H T → ((AV.agg [.row K (vs K) (AL 0 e).length]).pur (Cr (on K (AL 0 e)) H)) = av (⟨AL 0 e⟩ : Pat) := fun H hH => by
    rw [GO]
    show AV.agg [AV.BB _ _] = _
    have := hlend H hH
    rw [show AV.BB (Cr (on K (AL 0 e)) H) (.row K (vs K) (AL 0 e).length) = av (AL 0 e) from this]
    rfl
   dsimp only
   rw [List.map_append, Ab, List.map_cons, List.map_nil, h2 _ (by repeat (first | exact E9 hD.2.1 | refine Ai ?_ hfar (by decide))), List.map_append]
   rfl
 ·obtain rfl : n = 0 := by omega
  simp +contextual -dsimp only [↓SD, SU, simprocAttr, CFB, Int.lt_irrefl]
  refine Ac [2000] (AR c v _ _ hk 14 (by omega)) (by simp +contextual -dsimp only [↓SD, SU, simprocAttr]) ?_
  clear hk
  rintro r hp' ⟨k, i, h, rfl, hkk, hk, rfl⟩
  have hn := AcC ht
  have CL := Zn t [] .Aq [] (.inl ⟨rfl, rfl, rfl⟩) (by simp; omega)
  unfold AbQ at CL
  simp only [List.length_nil, Nat.zero_add, List.nil_append] at CL
  have hpl : List.take ps.length (ps.map (av : Pat → AV)) = ps.map av := List.take_of_length_le (by simp)
  have hpm : (ps.map (av : Pat → AV)).length = ps.length := by simp
  have hfl : ((AL 0 t).map (av : AU → AV)).length = pxN t := by rw [List.length_map, Cc]
  have hft : List.take (pxN t) ((AL 0 t).map (av : AU → AV)) = (AL 0 t).map av := List.take_of_length_le (by rw [hfl]; exact Nat.le_refl _)
  by_cases hz : k = 0
  ·have ez := eq_true hz
   simp +contextual -dsimp only [↓SD, SU, simprocAttr, CFB, ez]
   refine Ac [2000] (VS c v i h hk) (by simp +contextual -dsimp only [↓SD, SU, simprocAttr]) ?_
   clear hk
   rintro r hp' ⟨q, i, h, rfl, hk, rfl, hq1, hq2⟩
   simp +contextual -dsimp only [↓SD, SU, simprocAttr, CFB, GO, hpl, hpm, PAB]
   refine ⟨⟨by omega, by unfold maxLen; omega⟩, fun u' => ?_⟩
   refine Ac [] CL (by simp +contextual -dsimp only [↓SD, SU, simprocAttr, BR]) ?_
   rintro r hp' ⟨w, rfl, rfl⟩
   have e2 : ps.map (av : Pat → AV) ++ [.agg [.sl (q.nodes.map av)]] = (ps ++ [q]).map av := by rw [List.map_append]; rfl
   have e3 : ps.length + 1 = (ps ++ [q]).length := by simp
   have e4 : List.take (ps ++ [q]).length ((ps ++ [q]).map (av : Pat → AV)) = (ps ++ [q]).map av := List.take_of_length_le (by simp)
   have e5 : ((ps ++ [q]).map (av : Pat → AV)).length = (ps ++ [q]).length := by simp
   have e6 := fun hp => Ab (ps ++ [q]) hp
   have e7 := fun hp => Ab (AL 0 t) hp
   simp +contextual -dsimp only [↓SD, SU, simprocAttr, CFB]
   rw [e2, e3]
   generalize hQ : (ps ++ [q]).map (av : Pat → AV) = Q at *
   refine Ah.frz 12 (Ah.frz 13 (Ah.post [(2000, BE c v i h)] ?_))
   simp +contextual -dsimp only [↓SD, SU, simprocAttr, CFB, e4, e5, e6, e7, hfl, hft, Nat.le_refl]
   subst hQ
   exact ⟨ps ++ [q], t, i, h, by rw [OK]; rfl, ht, ⟨ps, [q], rfl, by omega, by simp, hps, fun x hx => by rw [List.mem_singleton.1 hx]; exact ⟨hq1, hq2⟩⟩, hk, rfl⟩
  ·have ez := eq_false hz
   simp +contextual -dsimp only [↓SD, SU, simprocAttr, CFB, ez, PAB]
   refine Ac [] CL (by simp +contextual -dsimp only [↓SD, SU, simprocAttr, BR]) ?_
   rintro r hp' ⟨w, rfl, rfl⟩
   simp +contextual -dsimp only [↓SD, SU, simprocAttr, CFB]
   have e6 := fun hp => Ab ps hp
   have e7 := fun hp => Ab (AL 0 t) hp
   refine Ah.frz 12 (Ah.frz 13 (Ah.post [(2000, BE c v i h)] ?_))
   simp +contextual -dsimp only [↓SD, SU, simprocAttr, CFB, hpl, hpm, e6, e7, hfl, hft, Nat.le_refl]
   exact ⟨ps, t, i, h, by rw [OK]; rfl, ht, ⟨ps, [], by simp, by omega, by simp, hps, fun x hx => (by cases hx)⟩, hk, rfl⟩
def AdB (r : AV) (hp' : Hp) : Prop := ∃ (l : List Pat) (t : Px), r = .tup [.sl (l.map av), av (⟨BI t⟩ : Data)] ∧ DT 4 t ∧ WC l ∧ hp' = []
theorem M9 (c : List UInt8) (hc : c.length ≤ 1048576) : AO Tryz.prog 10 [.sl (c.map av)] [] AdB := by
 refine FI.H rfl ?_
 simp +contextual -dsimp only [↓SD, SU, simprocAttr, CFB, FI]
 intro v3
 refine Ac [] (Zt c hc) (by simp +contextual -dsimp only [↓SD, SU, simprocAttr]) ?_
 rintro r hp' ⟨v, i, h, rfl, hk, rfl⟩
 simp +contextual -dsimp only [↓SD, SU, simprocAttr, CFB]
 refine Ac [2000] (VO c v i h hk) (by simp +contextual -dsimp only [↓SD, SU, simprocAttr]) ?_
 clear hk
 rintro r hp' ⟨l, t, i, h, rfl, ht, hl, hk, rfl⟩
 simp +contextual -dsimp only [↓SD, SU, simprocAttr, CFB, Ip]
 repeat intro _
 refine Ah.post [] ?_
 have e := fun hp => Ab l hp
 have e2 := fun hp => Ab (BI t) hp
 simp +contextual -dsimp only [↓SD, SU, simprocAttr, CFB, e, e2]
 exact ⟨l, t, rfl, ht, hl, rfl⟩
end Go.Proofs.YteeiaaogmjbcjaaGreat
set_option linter.unusedVariables false
set_option linter.unusedSimpArgs false
namespace Go.Proofs.YteeiaaogmjbcjaaGreat
open Go.RowKit Go.Proofs.YteeiaaogmjbcjaaGreat.Av Go.Proofs.YteeiaaogmjbcjaaGreat.Ml
open Go.Proofs.YteeiaaogmjbcjaaGreat.Av.AVal (av)

theorem Aa3 {K : Nat → List Int} {n f : Nat} {ks : List Px} (ih : ∀ k ∈ ks, ∀ b, (∀ i (h : i < pxN k), K (b + i) = ((AL b k)[i]'(by rw [Cc]; exact h)).kids) → b + pxN k ≤ n → B3 K n f b = some (b + pxN k)) : ∀ b, (∀ i (h : i < AZ ks), K (b + i) = ((AJ b ks)[i]'(by rw [Dn]; exact h)).kids) → b + AZ ks ≤ n → Ce (B3 K n f) (AM b ks) b = some (b + AZ ks) := by
 induction ks with
 | nil => intro b _ _; simp [AM, Ce, AZ]
 | cons k ks ihk =>
  intro b hK hn
  have e : AZ (k :: ks) = pxN k + AZ ks := by rw [AZ]
  rw [e] at hn ⊢
  rw [AM, Ce, if_pos rfl]
  have h1 := ih k (by simp) b (fun i h => by
   rw [hK i (by rw [e]; omega)]
   simp only [AJ]
   rw [List.getElem_append_left (by rw [Cc]; exact h)]) (by omega)
  rw [h1]
  dsimp only
  have h2 := ihk (fun k hk => ih k (by simp [hk])) (b + pxN k) (fun i h => by
   have := hK (pxN k + i) (by rw [e]; omega)
   rw [show b + pxN k + i = b + (pxN k + i) by omega, this]
   simp only [AJ]
   rw [List.getElem_append_right (by rw [Cc]; omega)]
   simp [Cc]) (by omega)
  rw [h2]
  congr 1
  omega
theorem SL {k : Px} : ∀ {ks : List Px}, k ∈ ks → pxN k ≤ AZ ks
 | a :: l, h => by
  rw [AZ]
  rcases List.mem_cons.1 h with rfl | h
  ·omega
  ·have := SL h; omega
theorem Abh {K : Nat → List Int} {n : Nat} : ∀ (t : Px) (f b : Nat), pxN t ≤ f → (∀ i (h : i < pxN t), K (b + i) = ((AL b t)[i]'(by rw [Cc]; exact h)).kids) → b + pxN t ≤ n → B3 K n f b = some (b + pxN t) := Px.ind fun h ks ih f b hf hK hn => by
 rw [pxN] at hf hn ⊢
 cases f with
 | zero => omega
 | succ f =>
  rw [B3, if_pos (by omega)]
  have h0 := hK 0 (by rw [pxN]; omega)
  simp only [AL, Nat.add_zero, List.getElem_cons_zero] at h0
  rw [h0, Aa3 (fun k hk b hK hn => ih k hk f b (by
   have := SL hk
   omega) hK hn) (b + 1) (fun i h => by
   have := hK (i + 1) (by rw [pxN]; omega)
   rw [show b + 1 + i = b + (i + 1) by omega, this]
   simp only [AL, List.getElem_cons_succ]) (by omega)]
  congr 1
  omega
theorem ZE (t : Px) (i : Nat) (h : i < pxN t) : (BI t).getD i default = (fun p : AU => (⟨p.kind, p.n, p.s, p.kids⟩ : AY)) ((AL 0 t)[i]'(by rw [Cc]; exact h)) := by
 unfold BI
 rw [List.getD_eq_getElem?_getD, List.getElem?_map, List.getElem?_eq_getElem (by rw [Cc]; exact h)]
 rfl
theorem Wg (t : Px) : Du (A5 (BI t)) (BI t).length = true := by
 unfold Du
 rw [decide_eq_true_eq, J6]
 have := Abh (K := A5 (BI t)) (n := pxN t) t (pxN t + 1) 0 (by omega) (fun i h => by
  unfold A5
  rw [Nat.zero_add, ZE t i h]) (by omega)
 rw [this, Nat.zero_add]
def toD (p : AU) : AY := ⟨p.kind, p.n, p.s, p.kids⟩
def Z1 (l : List AY) (b : Nat) (m : List AU) : Prop := ∀ i (h : i < m.length), l[b + i]? = some (toD m[i])
theorem U2 {l : List AY} {b : Nat} {m m' : List AU} (h : Z1 l b (m ++ m')) : Z1 l b m ∧ Z1 l (b + m.length) m' :=
 ⟨fun i hi => by
  rw [h i (by rw [List.length_append]; omega), List.getElem_append_left hi], fun i hi => by
  rw [show b + m.length + i = b + (m.length + i) by omega, h (m.length + i) (by rw [List.length_append]; omega), List.getElem_append_right (by omega)]
  simp⟩
theorem J8 {l : List AY} {b : Nat} {a : AU} {m : List AU} (h : Z1 l b (a :: m)) : l[b]? = some (toD a) ∧ Z1 l (b + 1) m := by
 have h1 := h 0 (by simp)
 refine ⟨h1, fun i hi => ?_⟩
 rw [show b + 1 + i = b + (i + 1) by omega, h (i + 1) (by simpa using hi)]
 rw [List.getElem_cons_succ]
theorem Abn : PB (bs [76, 101, 97, 102]) = true := by decide
theorem Abm : PB (bs [78, 111, 100, 101]) = true := by decide
theorem AdJ {s : ByteArray} (h : s = bs [91, 93] ∨ s = bs [116, 114, 117, 101]) (p : Bool) : DO s 0 p = true := by
 unfold DO
 rw [if_pos (by rcases h with h | h <;> simp [h])]
 rfl
theorem AdI {s : ByteArray} {k : Int} {p : Bool} (h : PB s = true) (hk : k ≤ 1) (h1 : s ≠ bs [116, 114, 117, 101]) (h2 : s ≠ bs [102, 97, 108, 115, 101]) (h3 : s ≠ bs [91, 93]) (h4 : s ≠ bs [58, 58]) : DO s k p = true := by
 unfold DO
 rw [if_neg (by simp [h1, h2, h3]), if_neg h4, h]
 simp [hk]
theorem AcB {l : List AY} : ∀ {f : Nat} {t : Px}, DT f t → ∀ b, Z1 l b (AL b t) → ∀ x ∈ AL b t, Bb l (toD x) = true := fun {f t} h => by
 have one : ∀ (n : Hd) b x, x ∈ AL b (.mk n []) → x = ⟨n.kind, n.n, n.s, []⟩ := fun n b x hx => by
  rw [AL, AJ, AM] at hx
  exact List.mem_singleton.1 hx
 induction h with
 | int f n h0 h1 =>
  intro b _ x hx
  rw [one _ _ _ hx]
  unfold Bb toD
  simp
  omega
 | unit f =>
  intro b _ x hx
  rw [one _ _ _ hx]
  unfold Bb toD
  simp
 | nl f =>
  intro b _ x hx
  rw [one _ _ _ hx]
  unfold Bb toD
  simp only [List.length_nil]
  have := AdJ (s := bs [91, 93]) (.inl rfl)
  simp [this]
 | tr f =>
  intro b _ x hx
  rw [one _ _ _ hx]
  unfold Bb toD
  simp only [List.length_nil]
  have := AdJ (s := bs [116, 114, 117, 101]) (.inr rfl)
  simp [this]
 | leaf f =>
  intro b _ x hx
  rw [one _ _ _ hx]
  unfold Bb toD
  simp only [List.length_nil]
  have := fun p => AdI (s := bs [76, 101, 97, 102]) (k := 0) (p := p) Abn (by decide) (by decide) (by decide) (by decide) (by decide)
  simp [this]
 | var f =>
  intro b _ x hx
  rw [one _ _ _ hx]
  unfold Bb toD
  simp
 | node f a h ih =>
  intro b hA x hx
  have e : AL b (.mk ⟨4, 0, bs [78, 111, 100, 101]⟩ [a]) = ⟨4, 0, bs [78, 111, 100, 101], [((b + 1 : Nat) : Int)]⟩ :: AL (b + 1) a := by
   simp [AL, AJ, AM]
  rw [e] at hx hA
  rcases List.mem_cons.1 hx with rfl | hx
  ·unfold Bb toD
   have := fun p => AdI (s := bs [78, 111, 100, 101]) (k := 1) (p := p) Abm (by decide) (by decide) (by decide) (by decide) (by decide)
   simp [this]
  ·exact ih (b + 1) (J8 hA).2 x hx
 | pair f a c ha hc iha ihc =>
  intro b hA x hx
  have e : AL b (.mk ⟨5, 0, bs []⟩ [a, c]) = ⟨5, 0, bs [], [((b + 1 : Nat) : Int), ((b + 1 + pxN a : Nat) : Int)]⟩ :: (AL (b + 1) a ++ AL (b + 1 + pxN a) c) := by
   simp [AL, AJ, AM]
  rw [e] at hx hA
  have h2 := U2 (J8 hA).2
  rw [Cc] at h2
  rcases List.mem_cons.1 hx with rfl | hx
  ·unfold Bb toD; simp
  ·rcases List.mem_append.1 hx with hx | hx
   ·exact iha (b + 1) h2.1 x hx
   ·exact ihc (b + 1 + pxN a) h2.2 x hx
 | cons f a c ha hc iha ihc =>
  intro b hA x hx
  have e : AL b (.mk ⟨4, 0, bs [58, 58]⟩ [.mk ⟨5, 0, bs []⟩ [a, c]]) = ⟨4, 0, bs [58, 58], [((b + 1 : Nat) : Int)]⟩ :: ⟨5, 0, bs [], [((b + 1 + 1 : Nat) : Int), ((b + 1 + 1 + pxN a : Nat) : Int)]⟩ :: (AL (b + 1 + 1) a ++ AL (b + 1 + 1 + pxN a) c) := by
   simp [AL, AJ, AM]
  rw [e] at hx hA
  have hA1 := (J8 hA).2
  have hA2 := J8 hA1
  have h2 := U2 hA2.2
  rw [Cc] at h2
  rcases List.mem_cons.1 hx with rfl | hx
  ·unfold Bb toD
   have hlt : b + 1 < l.length := by
    rcases Nat.lt_or_ge (b + 1) l.length with h | h
    ·exact h
    ·rw [List.getElem?_eq_none h] at hA2; cases hA2.1
   have AA : l.getD (b + 1) default = toD ⟨5, 0, bs [], [((b + 1 + 1 : Nat) : Int), ((b + 1 + 1 + pxN a : Nat) : Int)]⟩ := by rw [List.getD_eq_getElem?_getD, hA2.1]; rfl
   have ho : Bw AY.kind l [((b + 1 : Nat) : Int)] 5 = true := by
    unfold Bw
    dsimp only
    rw [Int.toNat_natCast, AA]
    simp [toD]
    omega
   simp only [List.length_cons, List.length_nil, ho]
   have := LV 1 true
   simp [this]
  ·rcases List.mem_cons.1 hx with rfl | hx
   ·unfold Bb toD; simp
   ·rcases List.mem_append.1 hx with hx | hx
    ·exact iha _ h2.1 x hx
    ·exact ihc _ h2.2 x hx
theorem AcD {t : Px} (h : DT 4 t) : Ct (BI t) = true := by
 have hn := AcC h
 have hp := K7 t
 unfold Ct
 rw [Wg, J6]
 simp only [Bool.and_true, Bool.and_eq_true, decide_eq_true_eq]
 refine ⟨by omega, List.all_eq_true.2 fun x hx => ?_⟩
 unfold BI at hx
 obtain ⟨p, hp, rfl⟩ := List.mem_map.1 hx
 exact AcB h 0 (fun i hi => by
  rw [Nat.zero_add]
  unfold BI
  rw [List.getElem?_map, List.getElem?_eq_getElem hi]; rfl) p hp
end Go.Proofs.YteeiaaogmjbcjaaGreat
set_option linter.unusedVariables false
namespace Go.Proofs.YteeiaaogmjbcjaaGreat
open Go.RowKit Go.Proofs.YteeiaaogmjbcjaaGreat.Av Go.Proofs.YteeiaaogmjbcjaaGreat.Ml
open Go.Proofs.YteeiaaogmjbcjaaGreat.Av.AVal (av)

theorem Qr {H : Nat → Hd} {K : Nat → List Int} {n f : Nat} (ih : ∀ a m, B3 K n f a = some m → pxN (BD H K f a) + a = m) : ∀ (ks : List Int) (nx m : Nat), Ce (B3 K n f) ks nx = some m → AZ (ks.map fun k => BD H K f k.toNat) + nx = m
 | [], nx, m, h => by rw [Ce] at h; cases h; rw [List.map_nil, AZ]; omega
 | k :: ks, nx, m, h => by
  rw [Ce] at h
  split at h
  ·rename_i hk
   cases he : B3 K n f nx with
   | none => rw [he] at h; cases h
   | some m1 =>
    rw [he] at h
    have h1 := ih nx m1 he
    have h2 := Qr ih ks m1 m h
    have hk2 : k.toNat = nx := by omega
    rw [List.map_cons, AZ, hk2]
    omega
  ·cases h
theorem J4 {H : Nat → Hd} {K : Nat → List Int} {n : Nat} : ∀ (f a m : Nat), B3 K n f a = some m → pxN (BD H K f a) + a = m
 | 0, a, m, h => by rw [B3] at h; cases h
 | f + 1, a, m, h => by
  rw [B3] at h
  split at h
  ·have := Qr (H := H) (fun a m => J4 f a m) (K a) (a + 1) m h
   rw [BD, pxN]
   omega
  ·cases h
theorem LU {H : Nat → Hd} {K : Nat → List Int} {n : Nat} (h : Du K n = true) (hk : ∀ i, i < n → ∀ k ∈ K i, (i : Int) < k ∧ k < n) (hn : 0 < n) : pxN (BD H K n 0) = n := by
 have h1 := of_decide_eq_true h
 have h2 := J4 (H := H) (n + 1) 0 n h1
 have h3 := HQ (H := H) hk n (n + 1) 0 hn (by omega) (by omega)
 rw [h3]; omega
end Go.Proofs.YteeiaaogmjbcjaaGreat
set_option linter.unusedVariables false
namespace Go.Proofs.YteeiaaogmjbcjaaGreat
open Go.RowKit Go.Proofs.YteeiaaogmjbcjaaGreat.Av Go.Proofs.YteeiaaogmjbcjaaGreat.Ml
open Go.Proofs.YteeiaaogmjbcjaaGreat.Av.AVal (av)

theorem V8 {ks : List Px} (ih : ∀ k ∈ ks, ∀ d l, DX k d = some l → ∀ x ∈ l, pxN x ≤ pxN d) : ∀ ds l, B1 ks ds = some l → ∀ x ∈ l, pxN x ≤ AZ ds := by
 induction ks with
 | nil => intro ds l e x hx; rw [B1] at e; cases e; cases hx
 | cons k ks ihk =>
  intro ds l e x hx
  cases ds with
  | nil => rw [B1] at e; cases e
  | cons d ds =>
   rw [B1] at e
   cases h1 : DX k d with
   | none => rw [h1] at e; cases e
   | some a =>
    rw [h1] at e
    simp only at e
    cases h2 : B1 ks ds with
    | none => rw [h2] at e; cases e
    | some b =>
     rw [h2] at e
     cases e
     rw [AZ]
     rcases List.mem_append.1 hx with h | h
     ·have := ih k (by simp) d a h1 x h; omega
     ·have := ihk (fun k hk => ih k (by simp [hk])) ds b h2 x h; omega
theorem ZB : ∀ q d l, DX q d = some l → ∀ x ∈ l, pxN x ≤ pxN d := Px.ind fun n ks ih d l e x hx => by
 rw [DX] at e
 split at e
 ·cases e; cases hx
 ·split at e
  ·cases e; simp at hx; subst hx; exact Nat.le_refl _
  ·split at e
   ·have := V8 ih _ _ e x hx
    obtain ⟨m, es⟩ := d
    rw [pxN]
    simp only [Px.kids] at this
    omega
   ·cases e
end Go.Proofs.YteeiaaogmjbcjaaGreat
