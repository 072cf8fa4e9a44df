/-
 AsksOf OF THE REFERENCE, by its abstract text. Conditions: none.
-/
import Derived.Test.YteeiaaogmjbcjaaGreatUPlanD
import Derived.Test.YteeiaaogmjbcjaaGreatUJ47
import Derived.Test.YteeiaaogmjbcjaaGreatUJ40
import Derived.Test.YteeiaaogmjbcjaaGreatUJ41
import Derived.Test.YteeiaaogmjbcjaaGreatUJ19
import Derived.Test.YteeiaaogmjbcjaaGreatUJ45
import Derived.Test.YteeiaaogmjbcjaaGreatUJ20
set_option linter.unusedVariables false
set_option linter.unusedSimpArgs false
set_option maxRecDepth 100000
namespace Go.Proofs.YteeiaaogmjbcjaaGreat
open Go.RowKit Go.Proofs.YteeiaaogmjbcjaaGreat.Av Go.Proofs.YteeiaaogmjbcjaaGreat.Ml
open Go.Proofs.YteeiaaogmjbcjaaGreat.Av.AVal (av)

def AbD (o : Option (List Ask)) : AV := .tup [av (⟨o.getD []⟩ : Ek), .bool o.isSome]
def LN (o : Option (List Ask)) : AV := match o with
 | none => .tup [.agg [.Au], .bool false]
 | some a => .tup [av (⟨a⟩ : Ek), .bool true]
theorem av1 {a : AV} (ha : Ap a) : ∀ x ∈ [a], Ap x := fun x hx => by rw [List.mem_singleton.1 hx]; exact ha
set_option maxHeartbeats 4000000 in
theorem Qd (l : List Pat) (hx : AE.bulk l ≤ 1048576) : AJ Tryz.prog 12 [.sl (l.map av)] (LN (Dd l)) := by
 have hpure : Ap (LN (Dd l)) := by
  unfold LN
  split
  ·exact Ap.tup (av2 (Ap.agg (av1 Ap.Au)) (Ap.bool _))
  ·exact Ap.tup (av2 (AVal.clean _) (Ap.bool _))
 refine Iz.F rfl (av1 (AD l)) hpure ?_
 have hbl := BJ l
 obtain ⟨f, hf⟩ : ∃ f : Pat → Px, f = fun q => B6 q.nodes 0 := ⟨_, rfl⟩
 have hO : (∀ q ∈ l, Dy q.nodes = true) → l ≠ [] → Dd l = if 400 < (A9 (wtR (A8 0 (l.map f)) + 1) 0 (A8 0 (l.map f))).length then none else some (A9 (wtR (A8 0 (l.map f)) + 1) 0 (A8 0 (l.map f))) := fun h1 h2 => by
  unfold Dd
  rw [if_neg (by
   rintro (h | h)
   ·exact h2 h
   ·obtain ⟨q, hq, hb⟩ := List.any_eq_true.1 h
    rw [h1 q hq] at hb
    exact absurd hb (by decide)), ← hf]
 have hO2 : (∃ q ∈ l, Dy q.nodes = false) → Dd l = none := fun ⟨q, hq, hb⟩ => by
  unfold Dd
  rw [if_pos (.inr (List.any_eq_true.2 ⟨q, hq, by rw [hb]; rfl⟩))]
 have hO3 : l = [] → Dd l = none := fun h => by unfold Dd; rw [if_pos (.inl h)]
 generalize Dd l = O at *
 simp +contextual -dsimp only [↓SD, SU, simprocAttr, -Nat.reduceMul, Iz, Aa]
 intro u2 u8
 refine AG (X := PoS) (fun s => ⟨[(2, .ptr 2 u2 0 0), (4, .row 8 s.u s.j), (9, .sl (l.map av)), (10, .int .i64 l.length), (11, .int .i64 s.j)], [(2, ⟨u2, false, 44, 1, [.agg [.Au]]⟩), (8, ⟨s.u, false, 94, 2, ((A8 0 ((l.take s.j).map f)).map TrS.mk).map av⟩)]⟩) (fun s => s.j ≤ l.length ∧ ∀ q ∈ l.take s.j, Dy q.nodes = true) (fun s => l.length - s.j) ⟨0, u8⟩ ⟨Nat.zero_le _, by simp⟩ (by simp +contextual -dsimp only [↓SD, SU, simprocAttr, -Nat.reduceMul, List.take_zero, List.length_map]) (by simp +contextual -dsimp only [↓SD, SU, simprocAttr, -Nat.reduceMul, List.take_zero, List.map_nil, A8]) ?_
 rintro ⟨j, u⟩ ⟨hj, hall⟩
 dsimp only at hj hall ⊢
 by_cases hlt : j < l.length
 ·have e1 := getD_map av l j .top hlt
  have hmem : l[j] ∈ l := List.getElem_mem hlt
  have hbq : AE.bulk l[j].nodes + 1 + 1 ≤ AE.bulk l := IQ hmem
  have CP := Qc l[j].nodes (by omega)
  cases hq : Dy l[j].nodes with
  | false =>
   have ho := hO2 ⟨_, hmem, hq⟩
   rw [hq] at CP
   rw [ho]
   unfold LN
   generalize l[j] = q at *
   simp +contextual -dsimp only [↓SD, SU, simprocAttr, -Nat.reduceMul, hlt, Aa, e1, IU]
   intro u6
   refine Ag _ CP ?_
   simp +contextual -dsimp only [↓SD, SU, simprocAttr, -Nat.reduceMul]
  | true =>
   rw [hq] at CP
   have hps := Ic hq
   have TQ := Jx (a := [.agg [.sl (l[j].nodes.map av)], .int .i64 (0 : Nat)]) (b := []) (Sn l[j].nodes (by omega) hq l[j].nodes.length 0 [] hps.2.2.1 (by omega) (by simp only [List.length_nil]; omega))
   have ht : A8 0 ((l.take (j + 1)).map f) = A8 0 ((l.take j).map f) ++ [⟨Bu (B6 l[j].nodes 0) [], (j : Int)⟩] := by
    rw [List.take_succ_eq_append_getElem hlt, List.map_append, List.map_cons, List.map_nil, JB, hf]
    simp [Nat.min_eq_left (Nat.le_of_lt hlt)]
   have hall2 : ∀ q ∈ l.take (j + 1), Dy q.nodes = true := fun q hq2 => by
    rw [List.take_succ_eq_append_getElem hlt] at hq2
    rcases List.mem_append.1 hq2 with h | h
    ·exact hall q h
    ·rw [List.mem_singleton.1 h]; exact hq
   have hRl : (((A8 0 ((l.take j).map f)).map TrS.mk).map (av : TrS → AV)).length = j := by rw [List.length_map, List.length_map, GG]; simp; omega
   have hRt : List.take j (((A8 0 ((l.take j).map f)).map TrS.mk).map (av : TrS → AV)) = ((A8 0 ((l.take j).map f)).map TrS.mk).map av := List.take_of_length_le (by omega)
   rw [List.cons_append, List.cons_append, List.nil_append] at TQ
   generalize Bu (B6 l[j].nodes 0) [] = TT at *
   generalize l[j] = q at *
   generalize A8 0 ((l.take j).map f) = R at *
   simp +contextual -dsimp only [↓SD, SU, simprocAttr, -Nat.reduceMul, hlt, Aa, e1, IU]
   intro u6
   refine Ag _ CP ?_
   simp +contextual -dsimp only [↓SD, SU, simprocAttr, -Nat.reduceMul]
   refine Ag _ TQ ?_
   simp +contextual -dsimp only [↓SD, SU, simprocAttr, -Nat.reduceMul, hRl, hRt]
   exact ⟨⟨by omega, by unfold maxLen; omega⟩, fun u' => ⟨by omega, Ai.le ⟨⟨j + 1, u'⟩, ⟨⟨hlt, hall2⟩, (by first | omega | (simp only; omega))⟩, rfl⟩ (by simp +contextual -dsimp only [↓SD, SU, simprocAttr, -Nat.reduceMul, Int.natCast_add]) (by simp +contextual -dsimp only [↓SD, SU, simprocAttr, -Nat.reduceMul, ht, List.map_append, K9])⟩⟩
 ·obtain rfl : j = l.length := by omega
  rw [List.take_length] at hall ⊢
  by_cases h0 : l = []
  ·have ho := hO3 h0
   have h00 : (l.length : Int) = 0 := by rw [h0]; rfl
   rw [ho]
   unfold LN
   simp +contextual -dsimp only [↓SD, SU, simprocAttr, -Nat.reduceMul, Nat.lt_irrefl, h00]
  have h00 : ¬ (l.length : Int) = 0 := fun e => h0 (List.eq_nil_of_length_eq_zero (by omega))
  have ho := hO hall h0
  have hwt := Mt 0 l hall
  have hin := Rz (i := 0) hall
  rw [← hf] at hwt hin
  have hrl : (A8 0 (l.map f)).length = l.length := by rw [GG, List.length_map]
  generalize A8 0 (l.map f) = R at *
  obtain ⟨P, hP⟩ : ∃ P, P = A9 (wtR R + 1) 0 R := ⟨_, rfl⟩
  have hPl := EZ (wtR R + 1) 0 R
  have hP1 : 0 < P.length := by
   rw [hP, A9, if_neg (by omega)]
   cases R with
   | nil => simp [CE]
   | cons r rs =>
    rw [CE]
    cases r.AA with
    | nil => simp [DZ]
    | cons t ts => simp [DZ]
  have CL := XV (wtR R + 1) R [] .Au [] (.inl ⟨rfl, rfl, rfl⟩) (by omega) (by omega) hin (by simp)
  rw [List.nil_append, List.length_nil, ← hP] at CL
  rw [← hP] at ho hPl
  clear hP hO hO2 hO3
  have hRm : ∀ hp, ((R.map TrS.mk).map (av : TrS → AV)).map (AV.pur hp) = (R.map TrS.mk).map av := fun hp => Ab _ hp
  have hRl : ((R.map TrS.mk).map (av : TrS → AV)).length = l.length := by rw [List.length_map, List.length_map, hrl]
  have hRt : List.take l.length ((R.map TrS.mk).map (av : TrS → AV)) = (R.map TrS.mk).map av := List.take_of_length_le (by omega)
  have hPm : ∀ hp, (P.map (av : Ask → AV)).map (AV.pur hp) = P.map av := fun hp => Ab _ hp
  have hPL : (P.map (av : Ask → AV)).length = P.length := List.length_map _
  have hPt : List.take P.length (P.map (av : Ask → AV)) = P.map av := List.take_of_length_le (by omega)
  have hPn : ¬ P.map (av : Ask → AV) = [] := fun h => by rw [h] at hPL; simp only [List.length_nil] at hPL; omega
  simp +contextual -dsimp only [↓SD, SU, simprocAttr, -Nat.reduceMul, Nat.lt_irrefl, h00]
  refine BM (Ai.frz 8 (Ai.pur 4 (Ai.here ?_)))
  simp +contextual -dsimp only [↓SD, SU, simprocAttr, -Nat.reduceMul, hRm, hRl, hRt, Nat.le_refl]
  refine Ac [] CL (by simp +contextual -dsimp only [↓SD, SU, simprocAttr, -Nat.reduceMul]) ?_
  rintro r hp' (⟨h, _, _⟩ | ⟨v, rfl, rfl⟩)
  ·exact absurd h hPn
  rw [hPL, ho]
  by_cases hbig : 400 < P.length
  ·have hbi : (400 : Int) < (P.length : Int) := by omega
   rw [if_pos hbig]
   unfold LN
   simp +contextual -dsimp only [↓SD, SU, simprocAttr, -Nat.reduceMul, hRm, hRl, hRt, Nat.le_refl, hbi]
  ·have hbi : ¬ (400 : Int) < (P.length : Int) := by omega
   rw [if_neg hbig]
   unfold LN
   simp +contextual -dsimp only [↓SD, SU, simprocAttr, -Nat.reduceMul, hRm, hRl, hRt, Nat.le_refl, hbi]
   refine BM (Ai.frz 90 (Ai.pur 7 (Ai.here ?_)))
   simp +contextual -dsimp only [↓SD, SU, simprocAttr, -Nat.reduceMul, hRm, hRl, hRt, Nat.le_refl, hPm, hPL, hPt, Xi]
theorem N4 (l : List Pat) (hx : AE.bulk l ≤ 1048576) : AJ Tryz.prog 12 [.sl (l.map av)] (AbD (Dd l)) := by
 refine Oi (Qd l hx) fun S w v h => ?_
 cases hO : Dd l with
 | some a => rw [hO] at h; exact h
 | none =>
  rw [hO] at h
  unfold LN at h
  have := Av.VR.Ui (off := 0) (y := .agg [.sl []]) h (fun x u hx hu => by
   cases hx
   exact Av.VR.Vh (off := 0) (y := .sl []) hu rfl (fun x u hx hu => by cases hx; cases hu; exact .sl0 none 0 (Nat.zero_le _)))
  exact this
end Go.Proofs.YteeiaaogmjbcjaaGreat
set_option linter.unusedVariables false
set_option linter.unusedSimpArgs false
set_option maxRecDepth 100000
namespace Go.Proofs.YteeiaaogmjbcjaaGreat
open Go.RowKit Go.Proofs.YteeiaaogmjbcjaaGreat.Av Go.Proofs.YteeiaaogmjbcjaaGreat.Ml
open Go.Proofs.YteeiaaogmjbcjaaGreat.Av.AVal (av)
open OVal (ov oh on)

theorem F0 {α : Type} [AE α] {m : Nat} : ∀ {l : List α}, (∀ x ∈ l, AE.bulk x ≤ m) → AE.bulk l ≤ l.length * m + 1
 | [], _ => by show (([] : List α).map AE.bulk).sum + 1 ≤ _; simp
 | a :: l, h => by
  have h1 := F0 (l := l) fun x hx => h x (List.mem_cons_of_mem _ hx)
  have h2 := h a (by simp)
  have h3 : AE.bulk (a :: l) = AE.bulk a + AE.bulk l := by show ((a :: l).map AE.bulk).sum + 1 = AE.bulk a + ((l.map AE.bulk).sum + 1); simp; omega
  rw [h3, List.length_cons, Nat.add_mul]
  omega
theorem Lp (x : A0) : AE.bulk x = x.s.size + x.kids.length + 5 := by
 have h : AE.bulk x = 1 + 1 + (x.s.size + 1) + AE.bulk x.kids + 1 := rfl
 rw [h, KB]; omega
theorem XP {l : List Pat} (h : Vo l) : AE.bulk l ≤ 1048576 := by
 obtain ⟨a, b, rfl, ha, hb, h1, h2⟩ := h
 have e : AE.bulk (a ++ b) + 1 = AE.bulk a + AE.bulk b := by
  show ((a ++ b).map AE.bulk).sum + 1 + 1 = ((a.map AE.bulk).sum + 1) + ((b.map AE.bulk).sum + 1)
  rw [List.map_append, List.sum_append]; omega
 have k1 := F0 (m := 20000) (l := a) fun q hq => by
  obtain ⟨g1, g2⟩ := h1 q hq
  have g3 := F0 (m := 110) (l := q.nodes) fun x hx => by rw [Lp]; have := g2 x hx; omega
  have g4 : AE.bulk q = AE.bulk q.nodes + 1 := rfl
  omega
 have k2 := F0 (m := 500000) (l := b) fun q hq => by
  obtain ⟨g1, g2⟩ := h2 q hq
  have g3 := F0 (m := 410) (l := q.nodes) fun x hx => by rw [Lp]; have := g2 x hx; omega
  have g4 : AE.bulk q = AE.bulk q.nodes + 1 := rfl
  omega
 have k3 := Nat.mul_le_mul_right 20000 ha
 have k4 := Nat.mul_le_mul_right 500000 hb
 omega
end Go.Proofs.YteeiaaogmjbcjaaGreat
set_option linter.unusedVariables false
set_option linter.unusedSimpArgs false
set_option maxRecDepth 100000
namespace Go.Proofs.YteeiaaogmjbcjaaGreat
open Go.RowKit Go.Proofs.YteeiaaogmjbcjaaGreat.Av Go.Proofs.YteeiaaogmjbcjaaGreat.Ml
open Go.Proofs.YteeiaaogmjbcjaaGreat.Av.AVal (av)
open OVal (ov oh on)

theorem Yg (l : List Int) (n : Int) (hl : l.length ≤ 1048576) : AJ Tryz.prog 20 [.sl (l.map av), .int .i64 n] (.bool (decide (n ∈ l))) := by
 refine IA.F rfl (by simp; exact ⟨AD l, E0 _⟩) (Ap.bool _) ?_
 simp +contextual -dsimp (maxSteps := 2000000) only [↓SD, SU, simprocAttr, IA, Aa]
 refine AG (X := Nat) (fun k => ⟨[(1, .int .i64 n), (7, .sl (l.map av)), (8, .int .i64 l.length), (9, .int .i64 k)], []⟩) (fun k => k ≤ l.length ∧ ∀ i (h : i < l.length), i < k → ¬ l[i] = n) (fun k => l.length - k) 0 ⟨Nat.zero_le _, fun i h hi => by omega⟩ (by simp +contextual -dsimp only [↓SD, SU, simprocAttr]) trivial ?_
 intro k ⟨hk, hp⟩
 by_cases hlt : k < l.length
 ·have e := getD_map av l k .top hlt
  by_cases hn : l[k] = n
  ·have : n ∈ l := hn ▸ List.getElem_mem hlt
   rw [hn] at e
   simp +contextual -dsimp (maxSteps := 2000000) only [↓SD, SU, simprocAttr, Aa, hlt, e, Ae, this]
  ·have f := eq_false hn
   have hstep : ∀ i (h : i < l.length), i < k + 1 → ¬ l[i] = n := fun i h hi => by
    rcases Nat.lt_succ_iff_lt_or_eq.1 hi with h1 | rfl
    ·exact hp i h h1
    ·exact hn
   generalize l[k] = a at *
   simp +contextual -dsimp (maxSteps := 2000000) only [↓SD, SU, simprocAttr, Aa, hlt, e, Ae, f]
   exact ⟨by omega, Ai.le ⟨k + 1, ⟨⟨hlt, hstep⟩, (by first | omega | (simp only; omega))⟩, rfl⟩ (by simp +contextual -dsimp only [↓SD, SU, simprocAttr, Int.natCast_add]) trivial⟩
 ·obtain rfl : k = l.length := by omega
  have : ¬ n ∈ l := fun h => by
   obtain ⟨i, hi, e⟩ := List.mem_iff_getElem.1 h
   exact hp i hi hi e
  simp +contextual -dsimp (maxSteps := 2000000) only [↓SD, SU, simprocAttr, Aa, Nat.lt_irrefl, this]
theorem PR : E4 [] = false := by unfold E4; simp
set_option maxHeartbeats 4000000 in
theorem Sm (c : List UInt8) (hc : AE.bulk c ≤ 1048576) : AJ Tryz.prog 5 [.sl (c.map av)] (.bool true) := by
 have hcl := BJ c
 refine IB.F rfl (by simp; exact AD c) (Ap.bool _) ?_
 have h20 : ¬ (1048576 : Int) < c.length := by omega
 simp +contextual -dsimp (maxSteps := 2000000) only [↓SD, SU, simprocAttr, IB, Aa, h20]
 refine Ac [] (Og c (by omega)) (by simp +contextual -dsimp only [↓SD, SU, simprocAttr, Ab]) ?_
 rintro r hp' ⟨l, rfl, hl, rfl⟩
 have hlb := XP hl
 have CI := Ob 9000 l hlb
 have CS := N4 l hlb
 have hab := Ve l
 have hlp : ∀ hp, (l.map (av : Pat → AV)).map (AV.pur hp) = l.map av := fun hp => Ab l hp
 simp +contextual -dsimp (maxSteps := 2000000) only [↓SD, SU, simprocAttr]
 refine Ak [] CI (by simp +contextual -dsimp only [↓SD, SU, simprocAttr, Ab]) ?_
 rintro r hp' ⟨vs, rfl, rfl⟩ H hH
 rw [Af] at hH
 obtain ⟨R, hR⟩ : ∃ R, R = (Dd l).getD [] := ⟨_, rfl⟩
 rw [← hR] at hH hab ⊢
 have hself := OVal.self 9000 vs (⟨R⟩ : Ek)
 have hlend := OVal.KV 9000 vs (⟨R⟩ : Ek)
 have hkon : ∀ k ∈ on 9000 (⟨R⟩ : Ek), 10000 ≤ k := fun k h => by
  have h1 : InT (sub 9000 0) k := OVal.inn (sub 9000 0) R k h
  exact Nat.le_trans (BQ 9000 0) h1.le
 have hfar : Ud (oh 9000 vs (⟨R⟩ : Ek)) := fun p hp => by
  have h1 : InT (sub 9000 0) p.1 := OVal.inh (nm := sub 9000 0) (y := R) hp
  exact Nat.le_trans (BQ 9000 0) h1.le
 rw [V7] at hlend ⊢
 obtain ⟨K, hK⟩ : ∃ K, K = sub 9000 0 := ⟨_, rfl⟩
 obtain ⟨ks, hks⟩ : ∃ ks, ks = on 9000 (⟨R⟩ : Ek) := ⟨_, rfl⟩
 obtain ⟨T, hT⟩ : ∃ T, T = oh 9000 vs (⟨R⟩ : Ek) := ⟨_, rfl⟩
 rw [← hT] at hself hfar hH hlend
 rw [← hks] at hkon hlend
 rw [← hK] at hlend ⊢
 have hTl : ∀ k, k < 10000 → ∀ hp, Aw (T ++ hp) k = Aw hp k := fun k hk hp => BV fun p hp' => by have := hfar p hp'; omega
 subst hH
 simp +contextual -dsimp (maxSteps := 2000000) only [↓SD, SU, simprocAttr, hTl]
 intro v4
 refine BM (Ai.Abe ks (Ai.RH 4 (b := ⟨v4, false, 44, 1, [.agg [.row K (vs K) R.length]]⟩) (Nb hkon (by decide) Cm) (Ai.le (t := ⟨[(3, .sl (l.map av)), (4, .ptr 4 v4 0 0), (5, .bool (Dd l).isSome)], [(4, ⟨v4, false, 44, 1, [.agg [.sl (R.map av)]]⟩)]⟩) ?_ (by simp +contextual -dsimp only [↓SD, SU, simprocAttr]) ⟨Cm.trans ?_, trivial⟩)))
 rotate_left
 ·dsimp only
  rw [List.map_cons, List.map_nil, hlend _ (by repeat (first | exact hself | exact Eu hself | refine Ah ?_ hfar (by decide)))]
  rfl
 clear hlend hself hfar hTl hkon CI
 have hRp : ∀ hp, (R.map (av : Ask → AV)).map (AV.pur hp) = R.map av := fun hp => Ab R hp
 have hRb : AE.bulk R ≤ 1048576 := by have h1 : AE.bulk (⟨R⟩ : Ek) = AE.bulk R + 1 := rfl; omega
 have hRl := BJ R
 have CA := L0 40 R hRb
 have CD := LZ R hRb
 unfold AbD at CS
 rw [← hR, Xi] at CS
 simp +contextual -dsimp (maxSteps := 2000000) only [↓SD, SU, simprocAttr, Ab]
 refine Ag _ CS ?_
 cases ho : Dd l with
 | none =>
  rw [ho] at hR
  have hR0 : R = [] := hR
  have ha : EI R = [] := by unfold EI; rw [hR0, PR]; rfl
  have hd : Nz R = -1 := by unfold Nz; rw [hR0, PR]; rfl
  rw [hd] at CD
  rw [ha] at CA
  simp +contextual -dsimp (maxSteps := 2000000) only [↓SD, SU, simprocAttr, Option.isSome_none, beq_self_eq_true]
  intro v6
  refine Ak [] CA (by simp +contextual -dsimp only [↓SD, SU, simprocAttr]) ?_
  rintro r hp' ⟨vs2, rfl, rfl⟩ H hH
  rw [D5, Af] at hH
  subst hH
  simp +contextual -dsimp (maxSteps := 2000000) only [↓SD, SU, simprocAttr, Fl]
  refine BM (Ai.frz 40 (Ai.pur 8 (Ai.here ?_)))
  simp +contextual -dsimp (maxSteps := 2000000) only [↓SD, SU, simprocAttr, Option.isSome_none, List.map_nil, List.take_nil]
  refine Ag _ CD ?_
  simp +contextual -dsimp (maxSteps := 2000000) only [↓SD, SU, simprocAttr]
 | some a =>
  rw [ho] at hR
  have hRa : R = a := hR
  rw [← hRa] at ho
  obtain ⟨g1, g2⟩ := Yt ho
  have g3 := Xn R
  have g4 := U3 (Hj ho)
  simp +contextual -dsimp (maxSteps := 2000000) only [↓SD, SU, simprocAttr, Option.isSome_some, beq_self_eq_true]
  intro v6
  refine Ak [] CA (by simp +contextual -dsimp only [↓SD, SU, simprocAttr]) ?_
  rintro r hp' ⟨vs2, rfl, rfl⟩ H hH
  rw [D5, Af] at hH
  subst hH
  have hal : (EI R).length ≤ 1048576 := by
   have h1 := Xn R
   have h2 : ∀ x ∈ EI R, x ∈ Cb R := fun x hx => (NL (Hj ho) x).1 hx
   unfold EI
   rw [if_pos (Hj ho)]
   have h3 := W3 (EH (Cb R))
   rw [Ow] at h3
   have h4 := S0 R R.length
   rw [List.take_length] at h4
   omega
  have CH := Yg (EI R) 0 hal
  rw [decide_eq_true g2] at CH
  generalize EI R = M at *
  have hml : (M.map (av : Int → AV)).length = M.length := by simp
  have hmt : List.take M.length (M.map (av : Int → AV)) = M.map av := List.take_of_length_le (by simp)
  have hmp : ∀ hp, (M.map (av : Int → AV)).map (AV.pur hp) = M.map av := fun hp => Ab M hp
  simp +contextual -dsimp (maxSteps := 2000000) only [↓SD, SU, simprocAttr, Fl]
  refine BM (Ai.frz 40 (Ai.pur 8 (Ai.here ?_)))
  simp +contextual -dsimp (maxSteps := 2000000) only [↓SD, SU, simprocAttr, Option.isSome_some, hml, hmt, hmp, Nat.le_refl]
  refine AG (X := Nat) (fun j => ⟨[(3, .sl (l.map av)), (4, .ptr 4 v4 0 0), (8, .sl (M.map av)), (41, .sl (M.map av)), (42, .int .i64 M.length), (43, .int .i64 j)], [(4, ⟨v4, false, 44, 1, [.agg [.sl (R.map av)]]⟩)]⟩) (fun j => j ≤ M.length) (fun j => M.length - j) 0 (Nat.zero_le _) (by simp +contextual -dsimp only [↓SD, SU, simprocAttr]) (by simp +contextual -dsimp only [↓SD, SU, simprocAttr]) ?_
  intro j hj
  by_cases hlt : j < M.length
  ·have e1 := getD_map av M j .top hlt
   obtain ⟨b1, b2⟩ := g1 _ (List.getElem_mem hlt)
   have hprev : 0 < j → (M.getD (j - 1) 0) < M[j] := fun h0 => by
    have := List.pairwise_iff_getElem.1 g3 (j - 1) j (by omega) hlt (by omega)
    rw [B5 (show j - 1 < M.length by omega)]
    exact this
   have e2 : 0 < j → (M.map (av : Int → AV)).getD (j - 1) .top = av (M.getD (j - 1) 0) := fun h0 => by rw [getD_map av M (j - 1) .top (by omega), B5 (show j - 1 < M.length by omega)]
   generalize M[j] = x at *
   generalize M.getD (j - 1) 0 = y at *
   have f1 : ¬ x < -1 := by omega
   have f2 : ¬ (l.length : Int) ≤ x := by omega
   by_cases h0 : 0 < j
   ·have h3 := hprev h0
    have e3 := e2 h0
    have f3 : ¬ x ≤ y := by omega
    have f4 : ((j : Int) - 1) = ((j - 1 : Nat) : Int) := by omega
    have f5 : j - 1 < M.length := by omega
    have f6 : (0 : Int) < j := by omega
    simp +contextual -dsimp (maxSteps := 2000000) only [↓SD, SU, simprocAttr, Aa, hlt, e1, Ae, f1, f2, h0, f6, f4, f5, e3, f3]
    exact ⟨by omega, by omega, Ai.le ⟨j + 1, ⟨hlt, (by first | omega | (simp only; omega))⟩, rfl⟩ (by simp +contextual -dsimp only [↓SD, SU, simprocAttr, Int.natCast_add]) (by simp +contextual -dsimp only [↓SD, SU, simprocAttr])⟩
   ·have f6 : ¬ (0 : Int) < j := by omega
    simp +contextual -dsimp (maxSteps := 2000000) only [↓SD, SU, simprocAttr, Aa, hlt, e1, Ae, f1, f2, h0, f6]
    exact ⟨by omega, Ai.le ⟨j + 1, ⟨hlt, (by first | omega | (simp only; omega))⟩, rfl⟩ (by simp +contextual -dsimp only [↓SD, SU, simprocAttr, Int.natCast_add]) (by simp +contextual -dsimp only [↓SD, SU, simprocAttr])⟩
  ·obtain rfl : j = M.length := by omega
   simp +contextual -dsimp (maxSteps := 2000000) only [↓SD, SU, simprocAttr, Nat.lt_irrefl, hml]
   refine Ag _ CH ?_
   simp +contextual -dsimp (maxSteps := 2000000) only [↓SD, SU, simprocAttr]
   refine Ag _ CD ?_
   simp +contextual -dsimp (maxSteps := 2000000) only [↓SD, SU, simprocAttr, Aa, g4]
end Go.Proofs.YteeiaaogmjbcjaaGreat
