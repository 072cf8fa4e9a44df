/-
 TyOk OF THE PROGRAM AND OF THE REFERENCE, by abstract texts. Conditions: none.
-/
import Derived.Test.YtjbcnilllfaipaaGreatYJ14
import Derived.Test.YtjbcnilllfaipaaGreatYJ23
set_option linter.unusedVariables false
set_option linter.unusedSimpArgs false
set_option maxRecDepth 100000
namespace Go.Proofs.YtjbcnilllfaipaaGreat
open Go.RowKit Go.Proofs.YtjbcnilllfaipaaGreat.Av Go.Proofs.YtjbcnilllfaipaaGreat.Ml
open Go.Proofs.YtjbcnilllfaipaaGreat.Av.AVal (av)

def KU (x : Bw) : Bool :=
 if x.name = bs [45, 62] ∨ x.name = bs [42] then decide (x.arity = 2)
 else if x.name = bs [114, 101, 102] then decide (x.arity = 1)
 else F0 x.name
theorem Y9 (x : Bw) (hs : x.name.size ≤ 1099511627776) : Ap Tryz.prog 160 [av x] (.bool (KU x)) := by
 refine Kf.F rfl (by simp; exact AVal.clean x) (Ac.bool _) ?_
 obtain ⟨v, nm, ar⟩ := x
 simp only at hs ⊢
 simp +contextual -dsimp (maxSteps := 2000000) only [↓SD, SU, simprocAttr, Kf, AY]
 (repeat' (first | intro _ | refine And.intro ?_ ?_))
 all_goals first | (refine Ab _ (Fb _ (by omega)) ?_; simp +contextual -dsimp (maxSteps := 2000000) only [↓SD, SU, simprocAttr, *]) | skip
 all_goals first | (simp [KU, *]; done) | (rename_i h; simp [KU, h]; intros; simp_all [bs]; done) | (simp_all [KU, bs]; done) | trace_state
theorem OU {l : List Bw} (hx : Ad.bulk l ≤ 1099511627776) {x : Bw} (hn : x ∈ l) : x.name.size ≤ 1099511627776 := by
 have h1 := AW hn
 have h2 : Ad.bulk x = Ad.bulk x.var + Ad.bulk x.name + Ad.bulk x.arity + 1 := rfl
 have h4 : Ad.bulk x.name = x.name.size + 1 := rfl
 omega
theorem OV {x : Bw} (hn : ¬ x.name = bs []) (hv : x.var = 0) : F1 x = ((decide (0 ≤ x.arity) && decide (x.arity ≤ 2)) && KU x) := by
 unfold F1 KU
 rw [if_neg hn, if_pos hv]
 split
 ·by_cases h : x.arity = 2 <;> simp [h]
 ·split
  ·by_cases h : x.arity = 1 <;> simp [h]
  ·rw [Bool.and_comm]

theorem AbN {l : List Bw} {k : Nat} (h : k < l.length) : arL (l.drop k) = l[k].arity.toNat :: arL (l.drop (k + 1)) := by
 rw [List.drop_eq_getElem_cons h]; rfl
theorem M4 {l : List Bw} {k : Nat} (h : k < l.length) (hb : F1 l[k] = false) : FG l = false := by
 unfold FG; rw [A6 _ h hb]; rfl
set_option maxHeartbeats 1000000 in
theorem Ab6 (l : List Bw) (hx : Ad.bulk l ≤ 1099511627776) : Ap Tryz.prog 144 [.sl (l.map av)] (.bool (FG l)) := by
 have hl := Ao l
 refine L2.F rfl (by simp; exact Aq l) (Ac.bool _) ?_
 simp +contextual -dsimp (maxSteps := 2000000) only [↓SD, SU, simprocAttr, L2, Aa]
 refine Al (X := Nat × Nat) (fun x => ⟨[(3, .int .i64 x.2), (6, .sl (l.map av)), (7, .int .i64 l.length), (8, .int .i64 x.1)], []⟩) (fun x => x.1 ≤ l.length ∧ (l.take x.1).all F1 = true ∧ x.2 ≤ 1 + 2 * x.1 ∧ FH 1 (arL l) = FH x.2 (arL (l.drop x.1))) (fun x => l.length - x.1) (0, 1) ⟨Nat.zero_le _, rfl, by simp, rfl⟩ (by simp +contextual -dsimp only [↓SD, SU, simprocAttr]) trivial ?_
 rintro ⟨k, c⟩ ⟨hk, hp, hc, he⟩
 simp only at hk hp hc he
 by_cases hlt : k < l.length
 ·have e := getD_map av l k .top hlt
  have hs := OU hx (List.getElem_mem hlt)
  rw [AbN hlt] at he
  have hbad : F1 l[k] = false → FG l = false := M4 hlt
  have hgood : F1 l[k] = true → (l.take (k + 1)).all F1 = true := fun h => by rw [A5 _ hlt hp]; exact h
  have CH := Y9 l[k] hs
  have hi := @OV l[k]
  have hia := @Up l[k]
  generalize l[k] = x at *
  obtain ⟨var, nm, ar⟩ := x
  simp only at hs he hi hia
  rw [AY] at CH
  cases c with
  | zero =>
   rw [Fp] at he
   have hno : FG l = false := by unfold FG; rw [he]; simp
   simp +contextual -dsimp (maxSteps := 2000000) only [↓SD, SU, simprocAttr, Aa, hlt, e, AY]
   rw [hno]
  | succ c =>
   rw [G2] at he
   have hc0 : ¬ ((c + 1 : Nat) : Int) = 0 := by omega
   have hc1 : ((c + 1 : Nat) : Int) - 1 = c := by omega
   by_cases hn : nm = bs []
   ·have hib : F1 ⟨var, nm, ar⟩ = ((decide (0 ≤ var) && decide (var ≤ 9999)) && decide (ar = 0)) := by simp [F1, hn]
    subst hn
    have CW := Em var 0 9999
    by_cases hw : 0 ≤ var ∧ var ≤ 9999
    ·rw [decide_eq_true hw.1, decide_eq_true hw.2] at CW hib
     by_cases har : ar = 0
     ·subst har
      simp +contextual -dsimp (maxSteps := 2000000) only [↓SD, SU, simprocAttr, Aa, hlt, e, AY, hc0, hc1]
      intro v
      refine ⟨by omega, ?_⟩
      refine Ab _ CW ?_
      simp +contextual -dsimp (maxSteps := 2000000) only [↓SD, SU, simprocAttr]
      exact ⟨by omega, Af.le ⟨(k + 1, c), ⟨⟨hlt, hgood (by rw [hib]; rfl), by simp only; omega, by simpa using he⟩, (by first | omega | (simp only; omega))⟩, rfl⟩ (by simp +contextual -dsimp only [↓SD, SU, simprocAttr, Int.natCast_add]) trivial⟩
     ·simp +contextual -dsimp (maxSteps := 2000000) only [↓SD, SU, simprocAttr, Aa, hlt, e, AY, hc0, hc1, har]
      intro v
      refine ⟨by omega, ?_⟩
      refine Ab _ CW ?_
      simp +contextual -dsimp (maxSteps := 2000000) only [↓SD, SU, simprocAttr, har]
      rw [hbad (by rw [hib, decide_eq_false har]; rfl)]
    ·have hf : (decide (0 ≤ var) && decide (var ≤ 9999)) = false := by
      rw [Bool.and_eq_false_iff, decide_eq_false_iff_not, decide_eq_false_iff_not]; omega
     rw [hf] at CW hib
     simp +contextual -dsimp (maxSteps := 2000000) only [↓SD, SU, simprocAttr, Aa, hlt, e, AY, hc0, hc1]
     intro v
     refine ⟨by omega, ?_⟩
     refine Ab _ CW ?_
     simp +contextual -dsimp (maxSteps := 2000000) only [↓SD, SU, simprocAttr]
     rw [hbad (by rw [hib]; rfl)]
   ·by_cases hv : var = 0
    ·subst hv
     have hib := hi hn rfl
     have CW := Em ar 0 2
     by_cases hr : 0 ≤ ar ∧ ar ≤ 2
     ·rw [decide_eq_true hr.1, decide_eq_true hr.2] at CW hib
      have hca : ((c : Nat) : Int) + ar = ((ar.toNat + c : Nat) : Int) := by omega
      cases hh : KU ⟨0, nm, ar⟩ with
      | false =>
       rw [hh] at CH hib
       simp +contextual -dsimp (maxSteps := 2000000) only [↓SD, SU, simprocAttr, Aa, hlt, e, AY, hc0, hc1, hn]
       intro v
       refine ⟨by omega, ?_⟩
       refine Ab _ CW ?_
       simp +contextual -dsimp (maxSteps := 2000000) only [↓SD, SU, simprocAttr]
       refine Ab _ CH ?_
       simp +contextual -dsimp (maxSteps := 2000000) only [↓SD, SU, simprocAttr]
       rw [hbad (by rw [hib]; rfl)]
      | true =>
       rw [hh] at CH hib
       simp +contextual -dsimp (maxSteps := 2000000) only [↓SD, SU, simprocAttr, Aa, hlt, e, AY, hc0, hc1, hn]
       intro v
       refine ⟨by omega, ?_⟩
       refine Ab _ CW ?_
       simp +contextual -dsimp (maxSteps := 2000000) only [↓SD, SU, simprocAttr]
       refine Ab _ CH ?_
       simp +contextual -dsimp (maxSteps := 2000000) only [↓SD, SU, simprocAttr, hca]
       refine ⟨by omega, by omega, Af.le ⟨(k + 1, ar.toNat + c), ⟨⟨hlt, hgood (by rw [hib]; rfl), by simp only; omega, he⟩, (by first | omega | (simp only; omega))⟩, rfl⟩ (by simp +contextual -dsimp only [↓SD, SU, simprocAttr, Int.natCast_add]) trivial⟩
     ·have hf : (decide (0 ≤ ar) && decide (ar ≤ 2)) = false := by
       rw [Bool.and_eq_false_iff, decide_eq_false_iff_not, decide_eq_false_iff_not]; omega
      rw [hf] at CW hib
      simp +contextual -dsimp (maxSteps := 2000000) only [↓SD, SU, simprocAttr, Aa, hlt, e, AY, hc0, hc1, hn]
      intro v
      refine ⟨by omega, ?_⟩
      refine Ab _ CW ?_
      simp +contextual -dsimp (maxSteps := 2000000) only [↓SD, SU, simprocAttr]
      rw [hbad (by rw [hib]; rfl)]
    ·simp +contextual -dsimp (maxSteps := 2000000) only [↓SD, SU, simprocAttr, Aa, hlt, e, AY, hc0, hc1, hn, hv]
     (repeat' (first | intro _ | refine And.intro ?_ ?_))
     all_goals first | omega | skip
     rw [hbad (by simp [F1, hn, hv])]
 ·obtain rfl : k = l.length := by omega
  rw [List.take_length] at hp
  rw [List.drop_length] at he
  simp +contextual -dsimp (maxSteps := 2000000) only [↓SD, SU, simprocAttr, Aa, Nat.lt_irrefl]
  congr 1
  unfold FG
  rw [he, hp, Bool.true_and]
  cases c with
  | zero => simp [Fp, arL]
  | succ c => simp [arL, Ia]; omega

theorem Xb {l : List Bw} (h : ¬ (l.length : Int) ≤ 200) : tyB l = false := by unfold tyB; rw [decide_eq_false h]; rfl
theorem Uq (l : List Bw) (hx : Ad.bulk l ≤ 1099511627776) : Ap Tryz.prog 128 [.agg [.sl (l.map av)]] (.bool (tyB l)) := by
 have hl := Ao l
 refine I3.F rfl (by simp; exact Ac.agg (by simp; exact Aq l)) (Ac.bool _) ?_
 by_cases h : (l.length : Int) ≤ 200
 ·simp +contextual -dsimp (maxSteps := 2000000) only [↓SD, SU, simprocAttr, I3, Aa, h]
  refine Ab _ (Ab6 l hx) ?_
  simp +contextual -dsimp (maxSteps := 2000000) only [↓SD, SU, simprocAttr]
  unfold tyB; rw [decide_eq_true h]; rfl
 ·simp +contextual -dsimp (maxSteps := 2000000) only [↓SD, SU, simprocAttr, I3, Aa, h]
  rw [Xb h]

theorem Wy (x : Bw) (hs : x.name.size ≤ 1099511627776) : Ap Tryz.prog 114 [av x] (.bool (F1 x)) := by
 refine Fi.F rfl (by simp; exact AVal.clean x) (Ac.bool _) ?_
 obtain ⟨v, nm, ar⟩ := x
 simp only at hs ⊢
 by_cases hn : nm = bs []
 ·subst hn
  simp +contextual -dsimp (maxSteps := 2000000) only [↓SD, SU, simprocAttr, Fi, AY]
  (repeat' (first | intro _ | refine And.intro ?_ ?_))
  all_goals simp [F1, *]
 ·by_cases hv : v = 0
  ·subst hv
   have hib := OV (x := ⟨0, nm, ar⟩) hn rfl
   rw [hib]
   simp +contextual -dsimp (maxSteps := 2000000) only [↓SD, SU, simprocAttr, Fi, AY, hn]
   (repeat' (first | intro _ | refine And.intro ?_ ?_))
   all_goals first | (refine Ab _ (AZ _ (by omega)) ?_; simp +contextual -dsimp (maxSteps := 2000000) only [↓SD, SU, simprocAttr, *]; (repeat' (first | intro _ | refine And.intro ?_ ?_))) | skip
   all_goals first | (simp [KU, *]; done) | (rename_i h; subst h; simp [KU]; done) | (simp_all [KU]; done) | trace_state
  ·simp +contextual -dsimp (maxSteps := 2000000) only [↓SD, SU, simprocAttr, Fi, AY, hn, hv]
   simp [F1, hn, hv]

theorem AcP (A : List Nat) : ∀ (f p m : Nat), HV A f p = some m → p < m ∧ m ≤ A.length := by
 intro f
 induction f with
 | zero => intro p m h; cases h
 | succ f ih =>
  intro p m h
  have hit : ∀ c q m, q ≤ A.length → Io (HV A f) c q = some m → q ≤ m ∧ m ≤ A.length := by
   intro c
   induction c with
   | zero => intro q m hq h; cases h; exact ⟨Nat.le_refl _, hq⟩
   | succ c ihc =>
    intro q m hq h
    rw [Io] at h
    cases he : HV A f q with
    | none => rw [he] at h; cases h
    | some r =>
     rw [he] at h
     have h1 := ih q r he
     have h2 := ihc r m h1.2 h
     omega
  unfold HV at h
  split at h
  ·have := hit _ _ _ (by omega) h; omega
  ·cases h
theorem ZE (l : List Bw) (hx : Ad.bulk l ≤ 1099511627776) (hi : l.all F1 = true) : ∀ (f p : Nat), l.length - p < f → p ≤ 1099511627776 → Ap Tryz.prog 115 [.agg [.sl (l.map av)], .int .i64 p] (.int .i64 (HW (HV (arL l) f p))) := by
 have hl := Ao l
 have hA : (arL l).length = l.length := by simp [arL]
 intro f
 induction f with
 | zero => intro p h; omega
 | succ f ih =>
  intro p hf hp0
  refine G7.F rfl (by simp; exact ⟨Ac.agg (by simp; exact Aq l), BL _⟩) (BL _) ?_
  by_cases hp : p < l.length
  ·have e := getD_map av l p .top hp
   have hit := Up (List.all_eq_true.1 hi l[p] (List.getElem_mem hp))
   have hE : HV (arL l) (f + 1) p = Io (HV (arL l) f) l[p].arity.toNat (p + 1) := by
    rw [HV, if_pos (by omega)]
    congr 1
    simp [arL, List.getD_eq_getElem?_getD, hp]
   rw [hE]
   generalize l[p] = a at *
   obtain ⟨var, nm, ar⟩ := a
   simp only at hit ⊢
   have hp' : ¬ l.length ≤ p := by omega
   simp +contextual -dsimp (maxSteps := 2000000) only [↓SD, SU, simprocAttr, G7, Aa, hp, hp', e, AY]
   (repeat' (first | intro _ | refine And.intro ?_ ?_))
   all_goals first | omega | skip
   refine Al (X := Nat × Option Nat) (fun x => ⟨[(1, .int .i64 p), (2, .obj [.sl (l.map av)]), (5, .int .i64 (HW x.2)), (6, .int .i64 x.1)], []⟩) (fun x => x.1 ≤ ar.toNat ∧ (∀ q, x.2 = some q → p < q ∧ q ≤ l.length) ∧ Io (HV (arL l) f) ar.toNat (p + 1) = x.2.bind (Io (HV (arL l) f) (ar.toNat - x.1))) (fun x => ar.toNat - x.1) (0, some (p + 1)) ⟨Nat.zero_le _, fun q h => by cases h; omega, rfl⟩ (by simp +contextual -dsimp only [↓SD, SU, simprocAttr, HW, Int.natCast_add]) trivial ?_
   rintro ⟨i, o⟩ ⟨hi1, hq, he⟩
   simp only at hi1 hq he
   have hii : decide ((i : Int) < ar) = decide (i < ar.toNat) := by congr 1; apply propext; omega
   cases o with
   | none =>
    simp +contextual -dsimp (maxSteps := 2000000) only [↓SD, SU, simprocAttr, Aa, hp, e, AY, HW]
    rw [he]
    exact ⟨fun _ => rfl, fun _ => rfl⟩
   | some q =>
    obtain ⟨q1, q2⟩ := hq q rfl
    have hq0 : (0 : Int) ≤ q := by omega
    by_cases hlt : (i : Int) < ar
    ·have C := ih q (by omega) (by omega)
     have hstep : Io (HV (arL l) f) ar.toNat (p + 1) = (HV (arL l) f q).bind (Io (HV (arL l) f) (ar.toNat - (i + 1))) := by
      rw [he, show ar.toNat - i = (ar.toNat - (i + 1)) + 1 by omega]
      rfl
     have hle := AcP (arL l) f q
     simp +contextual -dsimp (maxSteps := 2000000) only [↓SD, SU, simprocAttr, Aa, hp, e, AY, HW, hlt, hq0]
     refine Ab _ C ?_
     simp +contextual -dsimp (maxSteps := 2000000) only [↓SD, SU, simprocAttr]
     refine ⟨by omega, Af.le ⟨(i + 1, HV (arL l) f q), ⟨⟨by simp only; omega, fun m hm => by have := hle m hm; omega, hstep⟩, (by first | omega | (simp only; omega))⟩, rfl⟩ (by simp +contextual -dsimp only [↓SD, SU, simprocAttr, Int.natCast_add]) trivial⟩
    ·obtain rfl : i = ar.toNat := by omega
     rw [Nat.sub_self] at he
     have he' : Io (HV (arL l) f) ar.toNat (p + 1) = some q := by rw [he]; rfl
     simp +contextual -dsimp (maxSteps := 2000000) only [↓SD, SU, simprocAttr, Aa, hp, e, AY, HW, hlt, hq0]
     rw [he']
  ·have hE : HV (arL l) (f + 1) p = none := by rw [HV, if_neg (by omega)]
   have hp' : l.length ≤ p := by omega
   simp +contextual -dsimp (maxSteps := 2000000) only [↓SD, SU, simprocAttr, G7, Aa, hp', hE]
   (repeat' (first | intro _ | refine And.intro ?_ ?_))
   all_goals first | omega | rfl

theorem Td (l : List Bw) (hx : Ad.bulk l ≤ 1099511627776) : Ap Tryz.prog 70 [.agg [.sl (l.map av)]] (.bool (tyB l)) := by
 have hl := Ao l
 have hA : (arL l).length = l.length := by simp [arL]
 refine LU.F rfl (by simp; exact Ac.agg (by simp; exact Aq l)) (Ac.bool _) ?_
 simp +contextual -dsimp (maxSteps := 2000000) only [↓SD, SU, simprocAttr, LU, Aa]
 refine ⟨fun h => by rw [Xb (by omega)], fun h => ?_⟩
 refine Al (X := Nat) (fun k => ⟨[(1, .obj [.sl (l.map av)]), (10, .sl (l.map av)), (11, .int .i64 l.length), (12, .int .i64 k)], []⟩) (fun k => k ≤ l.length ∧ (l.take k).all F1 = true) (fun k => l.length - k) 0 ⟨Nat.zero_le _, rfl⟩ (by simp +contextual -dsimp only [↓SD, SU, simprocAttr]) trivial ?_
 rintro k ⟨hk, hp⟩
 by_cases hlt : k < l.length
 ·have e := getD_map av l k .top hlt
  have C := Wy l[k] (OU hx (List.getElem_mem hlt))
  rw [AY] at C
  simp +contextual -dsimp (maxSteps := 2000000) only [↓SD, SU, simprocAttr, Aa, hlt, e, AY]
  intro v
  refine Ab _ C ?_
  simp +contextual -dsimp (maxSteps := 2000000) only [↓SD, SU, simprocAttr]
  refine ⟨fun hb => ?_, fun hb => ⟨by omega, Af.le ⟨k + 1, ⟨⟨hlt, by rw [A5 _ hlt hp]; exact hb⟩, (by first | omega | (simp only; omega))⟩, rfl⟩ (by simp +contextual -dsimp only [↓SD, SU, simprocAttr, Int.natCast_add]) trivial⟩⟩
  unfold tyB; rw [M4 hlt hb, Bool.and_false]
 ·obtain rfl : k = l.length := by omega
  rw [List.take_length] at hp
  have C := ZE l hx hp (l.length + 1) 0 (by omega) (by omega)
  simp +contextual -dsimp (maxSteps := 2000000) only [↓SD, SU, simprocAttr, Aa, Nat.lt_irrefl]
  refine Ab _ C ?_
  simp +contextual -dsimp (maxSteps := 2000000) only [↓SD, SU, simprocAttr, Aa]
  congr 1
  rw [Rh _ _ _ (by omega), List.drop_zero]
  unfold tyB FG
  rw [hp, decide_eq_true (p := (l.length : Int) ≤ 200) (by omega), Bool.true_and, Bool.true_and, hA]
  cases hs : FH 1 (arL l) with
  | none =>
   rw [decide_eq_false (p := (none : Option (List Nat)) = some []) (by simp)]
   exact decide_eq_false (by simp only [Option.map_none, HW]; omega)
  | some r =>
   have := Qn _ _ _ hs
   rw [hA] at this
   cases r with
   | nil => simp [HW]
   | cons a r =>
    have h0 : ((a :: r).length) = r.length + 1 := rfl
    rw [decide_eq_false (p := some (a :: r) = some []) (by simp)]
    exact decide_eq_false (by simp only [Option.map_some, HW]; omega)

end Go.Proofs.YtjbcnilllfaipaaGreat
