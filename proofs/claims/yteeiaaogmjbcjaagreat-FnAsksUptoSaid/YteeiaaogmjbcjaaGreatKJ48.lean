/-
 AsksOf OF THE REFERENCE, by its abstract text. Conditions: none.
-/
import Derived.Test.YteeiaaogmjbcjaaGreatKPlanD
import Derived.Test.YteeiaaogmjbcjaaGreatKJ47
import Derived.Test.YteeiaaogmjbcjaaGreatKJ36
import Derived.Test.YteeiaaogmjbcjaaGreatKJ45
import Derived.Test.YteeiaaogmjbcjaaGreatKHitS
set_option linter.unusedVariables false
set_option linter.unusedSimpArgs false
set_option maxRecDepth 100000
namespace Go.Proofs.YteeiaaogmjbcjaaGreat
open Go.RowKit Go.Proofs.YteeiaaogmjbcjaaGreat.Av Go.Proofs.YteeiaaogmjbcjaaGreat.Ml
open Go.Proofs.YteeiaaogmjbcjaaGreat.Av.AVal (av)

def AcY (o : Option (List Ask)) : AV := .tup [av (⟨o.getD []⟩ : EY), .bool o.isSome]
def MU (o : Option (List Ask)) : AV := match o with
 | none => .tup [.agg [.Aq], .bool false]
 | some a => .tup [av (⟨a⟩ : EY), .bool true]
theorem av1 {a : AV} (ha : Aj a) : ∀ x ∈ [a], Aj x := fun x hx => by rw [List.mem_singleton.1 hx]; exact ha
set_option maxHeartbeats 4000000 in
theorem Rr (l : List Pat) (hx : AB.bulk l ≤ 1048576) : AG Tryz.prog 12 [.sl (l.map av)] (MU (DF l)) := by
 have hpure : Aj (MU (DF l)) := by
  unfold MU
  split
  ·exact Aj.tup (av2 (Aj.agg (av1 Aj.Aq)) (Aj.bool _))
  ·exact Aj.tup (av2 (AVal.clean _) (Aj.bool _))
 refine JA.F rfl (av1 (Aw l)) hpure ?_
 have hbl := Bh l
 obtain ⟨f, hf⟩ : ∃ f : Pat → Px, f = fun q => Ba q.nodes 0 := ⟨_, rfl⟩
 have hO : (∀ q ∈ l, Dg q.nodes = true) → l ≠ [] → DF l = if 400 < (A9 (wtR (Bl 0 (l.map f)) + 1) 0 (Bl 0 (l.map f))).length then none else some (A9 (wtR (Bl 0 (l.map f)) + 1) 0 (Bl 0 (l.map f))) := fun h1 h2 => by
  unfold DF
  rw [if_neg (by
   rintro (h | h)
   ·exact h2 h
   ·obtain ⟨q, hq, hb⟩ := List.any_eq_true.1 h
    rw [h1 q hq] at hb
    exact absurd hb (by decide)), ← hf]
 have hO2 : (∃ q ∈ l, Dg q.nodes = false) → DF l = none := fun ⟨q, hq, hb⟩ => by
  unfold DF
  rw [if_pos (.inr (List.any_eq_true.2 ⟨q, hq, by rw [hb]; rfl⟩))]
 have hO3 : l = [] → DF l = none := fun h => by unfold DF; rw [if_pos (.inl h)]
 generalize DF l = O at *
 simp +contextual -dsimp only [↓SD, SU, simprocAttr, -Nat.reduceMul, JA, Aa]
 intro u2 u8
 refine AF (X := PoS) (fun s => ⟨[(2, .ptr 2 u2 0 0), (4, .row 8 s.u s.j), (9, .sl (l.map av)), (10, .int .i64 l.length), (11, .int .i64 s.j)], [(2, ⟨u2, false, 44, 1, [.agg [.Aq]]⟩), (8, ⟨s.u, false, 94, 2, ((Bl 0 ((l.take s.j).map f)).map TrS.mk).map av⟩)]⟩) (fun s => s.j ≤ l.length ∧ ∀ q ∈ l.take s.j, Dg q.nodes = true) (fun s => l.length - s.j) ⟨0, u8⟩ ⟨Nat.zero_le _, by simp⟩ (by simp +contextual -dsimp only [↓SD, SU, simprocAttr, -Nat.reduceMul, List.take_zero, List.length_map]) (by simp +contextual -dsimp only [↓SD, SU, simprocAttr, -Nat.reduceMul, List.take_zero, List.map_nil, Bl]) ?_
 rintro ⟨j, u⟩ ⟨hj, hall⟩
 dsimp only at hj hall ⊢
 by_cases hlt : j < l.length
 ·have e1 := getD_map av l j .top hlt
  have hmem : l[j] ∈ l := List.getElem_mem hlt
  have hbq : AB.bulk l[j].nodes + 1 + 1 ≤ AB.bulk l := GM hmem
  have CP := K0 l[j].nodes (by omega)
  cases hq : Dg l[j].nodes with
  | false =>
   have ho := hO2 ⟨_, hmem, hq⟩
   rw [hq] at CP
   rw [ho]
   unfold MU
   generalize l[j] = q at *
   simp +contextual -dsimp only [↓SD, SU, simprocAttr, -Nat.reduceMul, hlt, Aa, e1, GO]
   intro u6
   refine Ae _ CP ?_
   simp +contextual -dsimp only [↓SD, SU, simprocAttr, -Nat.reduceMul]
  | true =>
   rw [hq] at CP
   have hps := Jh hq
   have TQ := Kv (a := [.agg [.sl (l[j].nodes.map av)], .int .i64 (0 : Nat)]) (b := []) (Tz l[j].nodes (by omega) hq l[j].nodes.length 0 [] hps.2.2.1 (by omega) (by simp only [List.length_nil]; omega))
   have ht : Bl 0 ((l.take (j + 1)).map f) = Bl 0 ((l.take j).map f) ++ [⟨BG (Ba l[j].nodes 0) [], (j : Int)⟩] := by
    rw [List.take_succ_eq_append_getElem hlt, List.map_append, List.map_cons, List.map_nil, Ky, hf]
    simp [Nat.min_eq_left (Nat.le_of_lt hlt)]
   have hall2 : ∀ q ∈ l.take (j + 1), Dg q.nodes = true := fun q hq2 => by
    rw [List.take_succ_eq_append_getElem hlt] at hq2
    rcases List.mem_append.1 hq2 with h | h
    ·exact hall q h
    ·rw [List.mem_singleton.1 h]; exact hq
   have hRl : (((Bl 0 ((l.take j).map f)).map TrS.mk).map (av : TrS → AV)).length = j := by rw [List.length_map, List.length_map, Hu]; simp; omega
   have hRt : List.take j (((Bl 0 ((l.take j).map f)).map TrS.mk).map (av : TrS → AV)) = ((Bl 0 ((l.take j).map f)).map TrS.mk).map av := List.take_of_length_le (by omega)
   rw [List.cons_append, List.cons_append, List.nil_append] at TQ
   generalize BG (Ba l[j].nodes 0) [] = TT at *
   generalize l[j] = q at *
   generalize Bl 0 ((l.take j).map f) = R at *
   simp +contextual -dsimp only [↓SD, SU, simprocAttr, -Nat.reduceMul, hlt, Aa, e1, GO]
   intro u6
   refine Ae _ CP ?_
   simp +contextual -dsimp only [↓SD, SU, simprocAttr, -Nat.reduceMul]
   refine Ae _ TQ ?_
   simp +contextual -dsimp only [↓SD, SU, simprocAttr, -Nat.reduceMul, hRl, hRt]
   exact ⟨⟨by omega, by unfold maxLen; omega⟩, fun u' => ⟨by omega, Ah.le ⟨⟨j + 1, u'⟩, ⟨⟨hlt, hall2⟩, (by first | omega | (simp only; omega))⟩, rfl⟩ (by simp +contextual -dsimp only [↓SD, SU, simprocAttr, -Nat.reduceMul, Int.natCast_add]) (by simp +contextual -dsimp only [↓SD, SU, simprocAttr, -Nat.reduceMul, ht, List.map_append, Mg])⟩⟩
 ·obtain rfl : j = l.length := by omega
  rw [List.take_length] at hall ⊢
  by_cases h0 : l = []
  ·have ho := hO3 h0
   have h00 : (l.length : Int) = 0 := by rw [h0]; rfl
   rw [ho]
   unfold MU
   simp +contextual -dsimp only [↓SD, SU, simprocAttr, -Nat.reduceMul, Nat.lt_irrefl, h00]
  have h00 : ¬ (l.length : Int) = 0 := fun e => h0 (List.eq_nil_of_length_eq_zero (by omega))
  have ho := hO hall h0
  have hwt := NF 0 l hall
  have hin := SK (i := 0) hall
  rw [← hf] at hwt hin
  have hrl : (Bl 0 (l.map f)).length = l.length := by rw [Hu, List.length_map]
  generalize Bl 0 (l.map f) = R at *
  obtain ⟨P, hP⟩ : ∃ P, P = A9 (wtR R + 1) 0 R := ⟨_, rfl⟩
  have hPl := FF (wtR R + 1) 0 R
  have hP1 : 0 < P.length := by
   rw [hP, A9, if_neg (by omega)]
   cases R with
   | nil => simp [C8]
   | cons r rs =>
    rw [C8]
    cases r.AD with
    | nil => simp [Fo]
    | cons t ts => simp [Fo]
  have CL := Zm (wtR R + 1) R [] .Aq [] (.inl ⟨rfl, rfl, rfl⟩) (by omega) (by omega) hin (by simp)
  rw [List.nil_append, List.length_nil, ← hP] at CL
  rw [← hP] at ho hPl
  clear hP hO hO2 hO3
  have hRm : ∀ hp, ((R.map TrS.mk).map (av : TrS → AV)).map (AV.pur hp) = (R.map TrS.mk).map av := fun hp => Ab _ hp
  have hRl : ((R.map TrS.mk).map (av : TrS → AV)).length = l.length := by rw [List.length_map, List.length_map, hrl]
  have hRt : List.take l.length ((R.map TrS.mk).map (av : TrS → AV)) = (R.map TrS.mk).map av := List.take_of_length_le (by omega)
  have hPm : ∀ hp, (P.map (av : Ask → AV)).map (AV.pur hp) = P.map av := fun hp => Ab _ hp
  have hPL : (P.map (av : Ask → AV)).length = P.length := List.length_map _
  have hPt : List.take P.length (P.map (av : Ask → AV)) = P.map av := List.take_of_length_le (by omega)
  have hPn : ¬ P.map (av : Ask → AV) = [] := fun h => by rw [h] at hPL; simp only [List.length_nil] at hPL; omega
  simp +contextual -dsimp only [↓SD, SU, simprocAttr, -Nat.reduceMul, Nat.lt_irrefl, h00]
  refine BO (Ah.frz 8 (Ah.pur 4 (Ah.here ?_)))
  simp +contextual -dsimp only [↓SD, SU, simprocAttr, -Nat.reduceMul, hRm, hRl, hRt, Nat.le_refl]
  refine Ac [] CL (by simp +contextual -dsimp only [↓SD, SU, simprocAttr, -Nat.reduceMul]) ?_
  rintro r hp' (⟨h, _, _⟩ | ⟨v, rfl, rfl⟩)
  ·exact absurd h hPn
  rw [hPL, ho]
  by_cases hbig : 400 < P.length
  ·have hbi : (400 : Int) < (P.length : Int) := by omega
   rw [if_pos hbig]
   unfold MU
   simp +contextual -dsimp only [↓SD, SU, simprocAttr, -Nat.reduceMul, hRm, hRl, hRt, Nat.le_refl, hbi]
  ·have hbi : ¬ (400 : Int) < (P.length : Int) := by omega
   rw [if_neg hbig]
   unfold MU
   simp +contextual -dsimp only [↓SD, SU, simprocAttr, -Nat.reduceMul, hRm, hRl, hRt, Nat.le_refl, hbi]
   refine BO (Ah.frz 90 (Ah.pur 7 (Ah.here ?_)))
   simp +contextual -dsimp only [↓SD, SU, simprocAttr, -Nat.reduceMul, hRm, hRl, hRt, Nat.le_refl, hPm, hPL, hPt, YH]
theorem Pm (l : List Pat) (hx : AB.bulk l ≤ 1048576) : AG Tryz.prog 12 [.sl (l.map av)] (AcY (DF l)) := by
 refine PC (Rr l hx) fun S w v h => ?_
 cases hO : DF l with
 | some a => rw [hO] at h; exact h
 | none =>
  rw [hO] at h
  unfold MU at h
  have := Av.VR.Vs (off := 0) (y := .agg [.sl []]) h (fun x u hx hu => by
   cases hx
   exact Av.VR.Ww (off := 0) (y := .sl []) hu rfl (fun x u hx hu => by cases hx; cases hu; exact .sl0 none 0 (Nat.zero_le _)))
  exact this
end Go.Proofs.YteeiaaogmjbcjaaGreat
set_option linter.unusedVariables false
set_option linter.unusedSimpArgs false
set_option maxRecDepth 100000
namespace Go.Proofs.YteeiaaogmjbcjaaGreat
open Go.RowKit Go.Proofs.YteeiaaogmjbcjaaGreat.Av Go.Proofs.YteeiaaogmjbcjaaGreat.Ml
open Go.Proofs.YteeiaaogmjbcjaaGreat.Av.AVal (av)
open OVal (ov oh on)

theorem Fz {α : Type} [AB α] {m : Nat} : ∀ {l : List α}, (∀ x ∈ l, AB.bulk x ≤ m) → AB.bulk l ≤ l.length * m + 1
 | [], _ => by show (([] : List α).map AB.bulk).sum + 1 ≤ _; simp
 | a :: l, h => by
  have h1 := Fz (l := l) fun x hx => h x (List.mem_cons_of_mem _ hx)
  have h2 := h a (by simp)
  have h3 : AB.bulk (a :: l) = AB.bulk a + AB.bulk l := by show ((a :: l).map AB.bulk).sum + 1 = AB.bulk a + ((l.map AB.bulk).sum + 1); simp; omega
  rw [h3, List.length_cons, Nat.add_mul]
  omega
theorem Mx (x : AU) : AB.bulk x = x.s.size + x.kids.length + 5 := by
 have h : AB.bulk x = 1 + 1 + (x.s.size + 1) + AB.bulk x.kids + 1 := rfl
 rw [h, Im]; omega
theorem Zf {l : List Pat} (h : WC l) : AB.bulk l ≤ 1048576 := by
 obtain ⟨a, b, rfl, ha, hb, h1, h2⟩ := h
 have e : AB.bulk (a ++ b) + 1 = AB.bulk a + AB.bulk b := by
  show ((a ++ b).map AB.bulk).sum + 1 + 1 = ((a.map AB.bulk).sum + 1) + ((b.map AB.bulk).sum + 1)
  rw [List.map_append, List.sum_append]; omega
 have k1 := Fz (m := 20000) (l := a) fun q hq => by
  obtain ⟨g1, g2⟩ := h1 q hq
  have g3 := Fz (m := 110) (l := q.nodes) fun x hx => by rw [Mx]; have := g2 x hx; omega
  have g4 : AB.bulk q = AB.bulk q.nodes + 1 := rfl
  omega
 have k2 := Fz (m := 500000) (l := b) fun q hq => by
  obtain ⟨g1, g2⟩ := h2 q hq
  have g3 := Fz (m := 410) (l := q.nodes) fun x hx => by rw [Mx]; have := g2 x hx; omega
  have g4 : AB.bulk q = AB.bulk q.nodes + 1 := rfl
  omega
 have k3 := Nat.mul_le_mul_right 20000 ha
 have k4 := Nat.mul_le_mul_right 500000 hb
 omega
theorem ZC {m : Nat} : ∀ t : Px, PxW m t → ∀ b, ∀ x ∈ AL b t, -9000000000000000000 ≤ x.n ∧ x.n ≤ 9000000000000000000 := Px.ind fun n ks ih hw b x hx => by
 cases hw with
 | mk _ _ h1 h2 h3 h4 h5 =>
  rw [AL] at hx
  rcases List.mem_cons.1 hx with rfl | hx
  ·exact h2
  ·have key2 : ∀ (l : List Px), (∀ k ∈ l, ∀ b, ∀ x ∈ AL b k, -9000000000000000000 ≤ x.n ∧ x.n ≤ 9000000000000000000) → ∀ b, ∀ x ∈ AJ b l, -9000000000000000000 ≤ x.n ∧ x.n ≤ 9000000000000000000 := by
    intro l
    induction l with
    | nil => intro _ b x hx; rw [AJ] at hx; cases hx
    | cons k l ih2 =>
     intro hl b x hx
     rw [AJ] at hx
     rcases List.mem_append.1 hx with h | h
     ·exact hl k (by simp) b x h
     ·exact ih2 (fun k hk => hl k (by simp [hk])) _ x h
   exact key2 ks (fun k hk b x hx => ih k hk (h5 k hk) b x hx) _ x hx
theorem Abl {t : Px} (h : DT 4 t) : ∀ n ∈ BI t, -9223372036854775808 ≤ n.n ∧ n.n ≤ 9223372036854775807 := fun n hn => by
 unfold BI at hn
 obtain ⟨p, hp, rfl⟩ := List.mem_map.1 hn
 have := ZC t (Adr h) 0 p hp
 dsimp only
 omega
theorem ZG {t : Px} (h : DT 4 t) : AB.bulk (BI t) ≤ 1048576 := by
 have h1 := Fz (m := 200) (l := BI t) fun n hn => by
  unfold BI at hn
  obtain ⟨p, hp, rfl⟩ := List.mem_map.1 hn
  have h2 := Eo (q := ⟨AL 0 t⟩) rfl (Adr h) p hp
  have h3 : AB.bulk (⟨p.kind, p.n, p.s, p.kids⟩ : AY) = 1 + 1 + (p.s.size + 1) + AB.bulk p.kids + 1 := rfl
  rw [h3, Im]
  omega
 have h4 := AcC h
 rw [J6] at h1
 omega
set_option maxHeartbeats 4000000 in
theorem Tx (c : List UInt8) (hc : AB.bulk c ≤ 1048576) : AG Tryz.prog 4 [.sl (c.map av)] (.bool true) := by
 have hcl := Bh c
 refine JB.F rfl (by simp; exact Aw c) (Aj.bool _) ?_
 have h20 : ¬ (1048576 : Int) < c.length := by omega
 simp +contextual -dsimp only [↓SD, SU, simprocAttr, JB, Aa, h20]
 refine Ac [] (M9 c (by omega)) (by simp +contextual -dsimp only [↓SD, SU, simprocAttr, Ab]) ?_
 rintro r hp' ⟨l, t, rfl, ht, hl, rfl⟩
 have hlb := Zf hl
 have hdb := ZG ht
 have hdd := AcD ht
 have hdr := Abl ht
 have CI := Pt 9000 l hlb
 have CS := Pm l hlb
 have CF := M7 l (BI t) hlb hdb
 have CG := M5 l (BI t) hlb hdb hdr
 have hab := Ws l
 have hlp : ∀ hp, (l.map (av : Pat → AV)).map (AV.pur hp) = l.map av := fun hp => Ab l hp
 have hdp : ∀ hp, ((BI t).map (av : AY → AV)).map (AV.pur hp) = (BI t).map av := fun hp => Ab _ hp
 simp +contextual -dsimp only [↓SD, SU, simprocAttr, Ip]
 intro v4
 refine Al [] CI (by simp +contextual -dsimp only [↓SD, SU, simprocAttr]) ?_
 rintro r hp' ⟨vs, rfl, rfl⟩ H hH
 rw [Ag] at hH
 obtain ⟨R, hR⟩ : ∃ R, R = (DF l).getD [] := ⟨_, rfl⟩
 rw [← hR] at hH hab ⊢
 have hself := OVal.self 9000 vs (⟨R⟩ : EY)
 have hlend := OVal.L0 9000 vs (⟨R⟩ : EY)
 have hkon : ∀ k ∈ on 9000 (⟨R⟩ : EY), 10000 ≤ k := fun k h => by
  have h1 : InT (sub 9000 0) k := OVal.inn (sub 9000 0) R k h
  exact Nat.le_trans (B5 9000 0) h1.le
 have hfar : Vn (oh 9000 vs (⟨R⟩ : EY)) := fun p hp => by
  have h1 : InT (sub 9000 0) p.1 := OVal.inh (nm := sub 9000 0) (y := R) hp
  exact Nat.le_trans (B5 9000 0) h1.le
 rw [Xq] at hlend ⊢
 obtain ⟨K, hK⟩ : ∃ K, K = sub 9000 0 := ⟨_, rfl⟩
 obtain ⟨ks, hks⟩ : ∃ ks, ks = on 9000 (⟨R⟩ : EY) := ⟨_, rfl⟩
 obtain ⟨T, hT⟩ : ∃ T, T = oh 9000 vs (⟨R⟩ : EY) := ⟨_, rfl⟩
 rw [← hT] at hself hfar hH hlend
 rw [← hks] at hkon hlend
 rw [← hK] at hlend ⊢
 have hTl : ∀ k, k < 10000 → ∀ hp, AA (T ++ hp) k = AA hp k := fun k hk hp => Ca fun p hp' => by have := hfar p hp'; omega
 subst hH
 simp +contextual -dsimp only [↓SD, SU, simprocAttr, hTl]
 intro v5
 refine BO (Ah.Acy ks (Ah.SQ 5 (b := ⟨v5, false, 44, 1, [.agg [.row K (vs K) R.length]]⟩) (L7 hkon (by decide) Dt) (Ah.le (t := ⟨[(3, .sl (l.map av)), (4, .ptr 4 v4 0 0), (5, .ptr 5 v5 0 0), (6, .bool (DF l).isSome)], [(5, ⟨v5, false, 44, 1, [.agg [.sl (R.map av)]]⟩), (4, ⟨v4, false, 28, 1, [.agg [.sl ((BI t).map av)]]⟩)]⟩) ?_ (by simp +contextual -dsimp only [↓SD, SU, simprocAttr]) ⟨Dt.trans ?_, (Bc (by decide)).trans (L7 hkon (by decide) (by simp +contextual -dsimp only [↓SD, SU, simprocAttr, hTl])), trivial⟩)))
 rotate_left
 ·dsimp only
  rw [List.map_cons, List.map_nil, hlend _ (by repeat (first | exact E9 hself | refine Ai ?_ hfar (by decide)))]
  rfl
 clear hlend hself hfar hTl hkon CI
 have hRp : ∀ hp, (R.map (av : Ask → AV)).map (AV.pur hp) = R.map av := fun hp => Ab R hp
 have hRb : AB.bulk R ≤ 1048576 := by have h1 : AB.bulk (⟨R⟩ : EY) = AB.bulk R + 1 := rfl; omega
 have CR := Of R (BI t) hRb hdb
 have CO := Kt R hRb
 unfold AcY at CS
 rw [← hR, YH] at CS
 simp +contextual -dsimp only [↓SD, SU, simprocAttr, Ab]
 refine Ae _ CS ?_
 cases ho : DF l with
 | none =>
  rw [ho] at hR
  have hR0 : R = [] := hR
  simp +contextual -dsimp only [↓SD, SU, simprocAttr, hR0, List.map_nil, Option.isSome_none, beq_self_eq_true]
 | some a =>
  rw [ho] at hR
  have hRa : R = a := hR
  rw [← hRa] at ho
  rw [OX ho] at CO
  rw [Wq ho hdd] at CR
  simp +contextual -dsimp only [↓SD, SU, simprocAttr, Option.isSome_some, beq_self_eq_true]
  intro v7
  refine Ae _ CF ?_
  simp +contextual -dsimp only [↓SD, SU, simprocAttr, Ab]
  refine Ae _ CG ?_
  simp +contextual -dsimp only [↓SD, SU, simprocAttr, Ab]
  refine Ae _ CR ?_
  simp +contextual -dsimp only [↓SD, SU, simprocAttr, Ab]
  refine Ae _ CO ?_
  simp +contextual -dsimp only [↓SD, SU, simprocAttr]
end Go.Proofs.YteeiaaogmjbcjaaGreat
