/-
 TyOk OF THE PROGRAM AND OF THE REFERENCE, by abstract texts. Conditions: none.
-/
import Derived.Test.YtoffpbehgncakaaGreatKJ39
import Derived.Test.YtoffpbehgncakaaGreatKJ14
set_option linter.unusedVariables false
set_option linter.unusedSimpArgs false
set_option maxRecDepth 100000
namespace Go.Proofs.YtoffpbehgncakaaGreat
open Go.RowKit Go.Proofs.YtoffpbehgncakaaGreat.Av Go.Proofs.YtoffpbehgncakaaGreat.Ml
open Go.Proofs.YtoffpbehgncakaaGreat.Av.AVal (av)

def JD (x : Bs) : Bool :=
 if x.name = bs [45, 62] ∨ x.name = bs [42] then decide (x.arity = 2)
 else if x.name = bs [114, 101, 102] then decide (x.arity = 1)
 else Eu x.name
theorem XE (x : Bs) (hs : x.name.size ≤ 1099511627776) : AH Tryz.prog 181 [av x] (.bool (JD x)) := by
 refine IM.F rfl (by simp; exact AVal.clean x) (Ap.bool _) ?_
 obtain ⟨v, nm, ar⟩ := x
 simp only at hs ⊢
 simp +contextual -dsimp (maxSteps := 2000000) only [↓SD, SU, simprocAttr, IM, BJ]
 (repeat' (first | intro _ | refine And.intro ?_ ?_))
 all_goals first | (refine Ac _ (DW _ (by omega)) ?_; simp +contextual -dsimp (maxSteps := 2000000) only [↓SD, SU, simprocAttr, *]) | skip
 all_goals first | (simp [JD, *]; done) | (rename_i h; simp [JD, h]; intros; simp_all [bs]; done) | (simp_all [JD, bs]; done) | trace_state
theorem M4 {l : List Bs} (hx : AE.bulk l ≤ 1099511627776) {x : Bs} (hn : x ∈ l) : x.name.size ≤ 1099511627776 := by
 have h1 := CY hn
 have h2 : AE.bulk x = AE.bulk x.var + AE.bulk x.name + AE.bulk x.arity + 1 := rfl
 have h4 : AE.bulk x.name = x.name.size + 1 := rfl
 omega
theorem M5 {x : Bs} (hn : ¬ x.name = bs []) (hv : x.var = 0) : EK x = ((decide (0 ≤ x.arity) && decide (x.arity ≤ 2)) && JD x) := by
 unfold EK JD
 rw [if_neg hn, if_pos hv]
 split
 ·by_cases h : x.arity = 2 <;> simp [h]
 ·split
  ·by_cases h : x.arity = 1 <;> simp [h]
  ·rw [Bool.and_comm]

theorem Z1 {l : List Bs} {k : Nat} (h : k < l.length) : arL (l.drop k) = l[k].arity.toNat :: arL (l.drop (k + 1)) := by
 rw [List.drop_eq_getElem_cons h]; rfl
theorem Lo {l : List Bs} {k : Nat} (h : k < l.length) (hb : EK l[k] = false) : Eo l = false := by
 unfold Eo; rw [A7 _ h hb]; rfl
set_option maxHeartbeats 1000000 in
theorem Aaq (l : List Bs) (hx : AE.bulk l ≤ 1099511627776) : AH Tryz.prog 161 [.sl (l.map av)] (.bool (Eo l)) := by
 have hl := A2 l
 refine Ky.F rfl (by simp; exact AQ l) (Ap.bool _) ?_
 simp +contextual -dsimp (maxSteps := 2000000) only [↓SD, SU, simprocAttr, Ky, Aa]
 refine AB (X := Nat × Nat) (fun x => ⟨[(3, .int .i64 x.2), (6, .sl (l.map av)), (7, .int .i64 l.length), (8, .int .i64 x.1)], []⟩) (fun x => x.1 ≤ l.length ∧ (l.take x.1).all EK = true ∧ x.2 ≤ 1 + 2 * x.1 ∧ Ep 1 (arL l) = Ep x.2 (arL (l.drop x.1))) (fun x => l.length - x.1) (0, 1) ⟨Nat.zero_le _, rfl, by simp, rfl⟩ (by simp +contextual -dsimp only [↓SD, SU, simprocAttr]) trivial ?_
 rintro ⟨k, c⟩ ⟨hk, hp, hc, he⟩
 simp only at hk hp hc he
 by_cases hlt : k < l.length
 ·have e := getD_map av l k .top hlt
  have hs := M4 hx (List.getElem_mem hlt)
  rw [Z1 hlt] at he
  have hbad : EK l[k] = false → Eo l = false := Lo hlt
  have hgood : EK l[k] = true → (l.take (k + 1)).all EK = true := fun h => by rw [A5 _ hlt hp]; exact h
  have CH := XE l[k] hs
  have hi := @M5 l[k]
  have hia := @SI l[k]
  generalize l[k] = x at *
  obtain ⟨var, nm, ar⟩ := x
  simp only at hs he hi hia
  rw [BJ] at CH
  cases c with
  | zero =>
   rw [D9] at he
   have hno : Eo l = false := by unfold Eo; rw [he]; simp
   simp +contextual -dsimp (maxSteps := 2000000) only [↓SD, SU, simprocAttr, Aa, hlt, e, BJ]
   rw [hno]
  | succ c =>
   rw [FL] at he
   have hc0 : ¬ ((c + 1 : Nat) : Int) = 0 := by omega
   have hc1 : ((c + 1 : Nat) : Int) - 1 = c := by omega
   by_cases hn : nm = bs []
   ·have hib : EK ⟨var, nm, ar⟩ = ((decide (0 ≤ var) && decide (var ≤ 9999)) && decide (ar = 0)) := by simp [EK, hn]
    subst hn
    have CW := Dn var 0 9999
    by_cases hw : 0 ≤ var ∧ var ≤ 9999
    ·rw [decide_eq_true hw.1, decide_eq_true hw.2] at CW hib
     by_cases har : ar = 0
     ·subst har
      simp +contextual -dsimp (maxSteps := 2000000) only [↓SD, SU, simprocAttr, Aa, hlt, e, BJ, hc0, hc1]
      intro v
      refine ⟨by omega, ?_⟩
      refine Ac _ CW ?_
      simp +contextual -dsimp (maxSteps := 2000000) only [↓SD, SU, simprocAttr]
      exact ⟨by omega, Ai.le ⟨(k + 1, c), ⟨⟨hlt, hgood (by rw [hib]; rfl), by simp only; omega, by simpa using he⟩, (by first | omega | (simp only; omega))⟩, rfl⟩ (by simp +contextual -dsimp only [↓SD, SU, simprocAttr, Int.natCast_add]) trivial⟩
     ·simp +contextual -dsimp (maxSteps := 2000000) only [↓SD, SU, simprocAttr, Aa, hlt, e, BJ, hc0, hc1, har]
      intro v
      refine ⟨by omega, ?_⟩
      refine Ac _ CW ?_
      simp +contextual -dsimp (maxSteps := 2000000) only [↓SD, SU, simprocAttr, har]
      rw [hbad (by rw [hib, decide_eq_false har]; rfl)]
    ·have hf : (decide (0 ≤ var) && decide (var ≤ 9999)) = false := by
      rw [Bool.and_eq_false_iff, decide_eq_false_iff_not, decide_eq_false_iff_not]; omega
     rw [hf] at CW hib
     simp +contextual -dsimp (maxSteps := 2000000) only [↓SD, SU, simprocAttr, Aa, hlt, e, BJ, hc0, hc1]
     intro v
     refine ⟨by omega, ?_⟩
     refine Ac _ CW ?_
     simp +contextual -dsimp (maxSteps := 2000000) only [↓SD, SU, simprocAttr]
     rw [hbad (by rw [hib]; rfl)]
   ·by_cases hv : var = 0
    ·subst hv
     have hib := hi hn rfl
     have CW := Dn ar 0 2
     by_cases hr : 0 ≤ ar ∧ ar ≤ 2
     ·rw [decide_eq_true hr.1, decide_eq_true hr.2] at CW hib
      have hca : ((c : Nat) : Int) + ar = ((ar.toNat + c : Nat) : Int) := by omega
      cases hh : JD ⟨0, nm, ar⟩ with
      | false =>
       rw [hh] at CH hib
       simp +contextual -dsimp (maxSteps := 2000000) only [↓SD, SU, simprocAttr, Aa, hlt, e, BJ, hc0, hc1, hn]
       intro v
       refine ⟨by omega, ?_⟩
       refine Ac _ CW ?_
       simp +contextual -dsimp (maxSteps := 2000000) only [↓SD, SU, simprocAttr]
       refine Ac _ CH ?_
       simp +contextual -dsimp (maxSteps := 2000000) only [↓SD, SU, simprocAttr]
       rw [hbad (by rw [hib]; rfl)]
      | true =>
       rw [hh] at CH hib
       simp +contextual -dsimp (maxSteps := 2000000) only [↓SD, SU, simprocAttr, Aa, hlt, e, BJ, hc0, hc1, hn]
       intro v
       refine ⟨by omega, ?_⟩
       refine Ac _ CW ?_
       simp +contextual -dsimp (maxSteps := 2000000) only [↓SD, SU, simprocAttr]
       refine Ac _ CH ?_
       simp +contextual -dsimp (maxSteps := 2000000) only [↓SD, SU, simprocAttr, hca]
       refine ⟨by omega, by omega, Ai.le ⟨(k + 1, ar.toNat + c), ⟨⟨hlt, hgood (by rw [hib]; rfl), by simp only; omega, he⟩, (by first | omega | (simp only; omega))⟩, rfl⟩ (by simp +contextual -dsimp only [↓SD, SU, simprocAttr, Int.natCast_add]) trivial⟩
     ·have hf : (decide (0 ≤ ar) && decide (ar ≤ 2)) = false := by
       rw [Bool.and_eq_false_iff, decide_eq_false_iff_not, decide_eq_false_iff_not]; omega
      rw [hf] at CW hib
      simp +contextual -dsimp (maxSteps := 2000000) only [↓SD, SU, simprocAttr, Aa, hlt, e, BJ, hc0, hc1, hn]
      intro v
      refine ⟨by omega, ?_⟩
      refine Ac _ CW ?_
      simp +contextual -dsimp (maxSteps := 2000000) only [↓SD, SU, simprocAttr]
      rw [hbad (by rw [hib]; rfl)]
    ·simp +contextual -dsimp (maxSteps := 2000000) only [↓SD, SU, simprocAttr, Aa, hlt, e, BJ, hc0, hc1, hn, hv]
     (repeat' (first | intro _ | refine And.intro ?_ ?_))
     all_goals first | omega | skip
     rw [hbad (by simp [EK, hn, hv])]
 ·obtain rfl : k = l.length := by omega
  rw [List.take_length] at hp
  rw [List.drop_length] at he
  simp +contextual -dsimp (maxSteps := 2000000) only [↓SD, SU, simprocAttr, Aa, Nat.lt_irrefl]
  congr 1
  unfold Eo
  rw [he, hp, Bool.true_and]
  cases c with
  | zero => simp [D9, arL]
  | succ c => simp [arL, GJ]; omega

theorem Vy {l : List Bs} (h : ¬ (l.length : Int) ≤ 200) : tyB l = false := by unfold tyB; rw [decide_eq_false h]; rfl
theorem SJ (l : List Bs) (hx : AE.bulk l ≤ 1099511627776) : AH Tryz.prog 114 [.agg [.sl (l.map av)]] (.bool (tyB l)) := by
 have hl := A2 l
 refine Hl.F rfl (by simp; exact Ap.agg (by simp; exact AQ l)) (Ap.bool _) ?_
 by_cases h : (l.length : Int) ≤ 200
 ·simp +contextual -dsimp (maxSteps := 2000000) only [↓SD, SU, simprocAttr, Hl, Aa, h]
  refine Ac _ (Aaq l hx) ?_
  simp +contextual -dsimp (maxSteps := 2000000) only [↓SD, SU, simprocAttr]
  unfold tyB; rw [decide_eq_true h]; rfl
 ·simp +contextual -dsimp (maxSteps := 2000000) only [↓SD, SU, simprocAttr, Hl, Aa, h]
  rw [Vy h]

theorem UT (x : Bs) (hs : x.name.size ≤ 1099511627776) : AH Tryz.prog 156 [av x] (.bool (EK x)) := by
 refine D3.F rfl (by simp; exact AVal.clean x) (Ap.bool _) ?_
 obtain ⟨v, nm, ar⟩ := x
 simp only at hs ⊢
 by_cases hn : nm = bs []
 ·subst hn
  simp +contextual -dsimp (maxSteps := 2000000) only [↓SD, SU, simprocAttr, D3, BJ]
  (repeat' (first | intro _ | refine And.intro ?_ ?_))
  all_goals simp [EK, *]
 ·by_cases hv : v = 0
  ·subst hv
   have hib := M5 (x := ⟨0, nm, ar⟩) hn rfl
   rw [hib]
   simp +contextual -dsimp (maxSteps := 2000000) only [↓SD, SU, simprocAttr, D3, BJ, hn]
   (repeat' (first | intro _ | refine And.intro ?_ ?_))
   all_goals first | (refine Ac _ (AZ _ (by omega)) ?_; simp +contextual -dsimp (maxSteps := 2000000) only [↓SD, SU, simprocAttr, *]; (repeat' (first | intro _ | refine And.intro ?_ ?_))) | skip
   all_goals first | (simp [JD, *]; done) | (rename_i h; subst h; simp [JD]; done) | (simp_all [JD]; done) | trace_state
  ·simp +contextual -dsimp (maxSteps := 2000000) only [↓SD, SU, simprocAttr, D3, BJ, hn, hv]
   simp [EK, hn, hv]

theorem AaU (A : List Nat) : ∀ (f p m : Nat), Gx A f p = some m → p < m ∧ m ≤ A.length := by
 intro f
 induction f with
 | zero => intro p m h; cases h
 | succ f ih =>
  intro p m h
  have hit : ∀ c q m, q ≤ A.length → GR (Gx A f) c q = some m → q ≤ m ∧ m ≤ A.length := by
   intro c
   induction c with
   | zero => intro q m hq h; cases h; exact ⟨Nat.le_refl _, hq⟩
   | succ c ihc =>
    intro q m hq h
    rw [GR] at h
    cases he : Gx A f q with
    | none => rw [he] at h; cases h
    | some r =>
     rw [he] at h
     have h1 := ih q r he
     have h2 := ihc r m h1.2 h
     omega
  unfold Gx at h
  split at h
  ·have := hit _ _ _ (by omega) h; omega
  ·cases h
theorem X0 (l : List Bs) (hx : AE.bulk l ≤ 1099511627776) (hi : l.all EK = true) : ∀ (f p : Nat), l.length - p < f → p ≤ 1099511627776 → AH Tryz.prog 157 [.agg [.sl (l.map av)], .int .i64 p] (.int .i64 (Gy (Gx (arL l) f p))) := by
 have hl := A2 l
 have hA : (arL l).length = l.length := by simp [arL]
 intro f
 induction f with
 | zero => intro p h; omega
 | succ f ih =>
  intro p hf hp0
  refine FQ.F rfl (by simp; exact ⟨Ap.agg (by simp; exact AQ l), Cr _⟩) (Cr _) ?_
  by_cases hp : p < l.length
  ·have e := getD_map av l p .top hp
   have hit := SI (List.all_eq_true.1 hi l[p] (List.getElem_mem hp))
   have hE : Gx (arL l) (f + 1) p = GR (Gx (arL l) f) l[p].arity.toNat (p + 1) := by
    rw [Gx, if_pos (by omega)]
    congr 1
    simp [arL, List.getD_eq_getElem?_getD, hp]
   rw [hE]
   generalize l[p] = a at *
   obtain ⟨var, nm, ar⟩ := a
   simp only at hit ⊢
   have hp' : ¬ l.length ≤ p := by omega
   simp +contextual -dsimp (maxSteps := 2000000) only [↓SD, SU, simprocAttr, FQ, Aa, hp, hp', e, BJ]
   (repeat' (first | intro _ | refine And.intro ?_ ?_))
   all_goals first | omega | skip
   refine AB (X := Nat × Option Nat) (fun x => ⟨[(1, .int .i64 p), (2, .obj [.sl (l.map av)]), (5, .int .i64 (Gy x.2)), (6, .int .i64 x.1)], []⟩) (fun x => x.1 ≤ ar.toNat ∧ (∀ q, x.2 = some q → p < q ∧ q ≤ l.length) ∧ GR (Gx (arL l) f) ar.toNat (p + 1) = x.2.bind (GR (Gx (arL l) f) (ar.toNat - x.1))) (fun x => ar.toNat - x.1) (0, some (p + 1)) ⟨Nat.zero_le _, fun q h => by cases h; omega, rfl⟩ (by simp +contextual -dsimp only [↓SD, SU, simprocAttr, Gy, Int.natCast_add]) trivial ?_
   rintro ⟨i, o⟩ ⟨hi1, hq, he⟩
   simp only at hi1 hq he
   have hii : decide ((i : Int) < ar) = decide (i < ar.toNat) := by congr 1; apply propext; omega
   cases o with
   | none =>
    simp +contextual -dsimp (maxSteps := 2000000) only [↓SD, SU, simprocAttr, Aa, hp, e, BJ, Gy]
    rw [he]
    exact ⟨fun _ => rfl, fun _ => rfl⟩
   | some q =>
    obtain ⟨q1, q2⟩ := hq q rfl
    have hq0 : (0 : Int) ≤ q := by omega
    by_cases hlt : (i : Int) < ar
    ·have C := ih q (by omega) (by omega)
     have hstep : GR (Gx (arL l) f) ar.toNat (p + 1) = (Gx (arL l) f q).bind (GR (Gx (arL l) f) (ar.toNat - (i + 1))) := by
      rw [he, show ar.toNat - i = (ar.toNat - (i + 1)) + 1 by omega]
      rfl
     have hle := AaU (arL l) f q
     simp +contextual -dsimp (maxSteps := 2000000) only [↓SD, SU, simprocAttr, Aa, hp, e, BJ, Gy, hlt, hq0]
     refine Ac _ C ?_
     simp +contextual -dsimp (maxSteps := 2000000) only [↓SD, SU, simprocAttr]
     refine ⟨by omega, Ai.le ⟨(i + 1, Gx (arL l) f q), ⟨⟨by simp only; omega, fun m hm => by have := hle m hm; omega, hstep⟩, (by first | omega | (simp only; omega))⟩, rfl⟩ (by simp +contextual -dsimp only [↓SD, SU, simprocAttr, Int.natCast_add]) trivial⟩
    ·obtain rfl : i = ar.toNat := by omega
     rw [Nat.sub_self] at he
     have he' : GR (Gx (arL l) f) ar.toNat (p + 1) = some q := by rw [he]; rfl
     simp +contextual -dsimp (maxSteps := 2000000) only [↓SD, SU, simprocAttr, Aa, hp, e, BJ, Gy, hlt, hq0]
     rw [he']
  ·have hE : Gx (arL l) (f + 1) p = none := by rw [Gx, if_neg (by omega)]
   have hp' : l.length ≤ p := by omega
   simp +contextual -dsimp (maxSteps := 2000000) only [↓SD, SU, simprocAttr, FQ, Aa, hp', hE]
   (repeat' (first | intro _ | refine And.intro ?_ ?_))
   all_goals first | omega | rfl

theorem Rc (l : List Bs) (hx : AE.bulk l ≤ 1099511627776) : AH Tryz.prog 101 [.agg [.sl (l.map av)]] (.bool (tyB l)) := by
 have hl := A2 l
 have hA : (arL l).length = l.length := by simp [arL]
 refine Kx.F rfl (by simp; exact Ap.agg (by simp; exact AQ l)) (Ap.bool _) ?_
 simp +contextual -dsimp (maxSteps := 2000000) only [↓SD, SU, simprocAttr, Kx, Aa]
 refine ⟨fun h => by rw [Vy (by omega)], fun h => ?_⟩
 refine AB (X := Nat) (fun k => ⟨[(1, .obj [.sl (l.map av)]), (10, .sl (l.map av)), (11, .int .i64 l.length), (12, .int .i64 k)], []⟩) (fun k => k ≤ l.length ∧ (l.take k).all EK = true) (fun k => l.length - k) 0 ⟨Nat.zero_le _, rfl⟩ (by simp +contextual -dsimp only [↓SD, SU, simprocAttr]) trivial ?_
 rintro k ⟨hk, hp⟩
 by_cases hlt : k < l.length
 ·have e := getD_map av l k .top hlt
  have C := UT l[k] (M4 hx (List.getElem_mem hlt))
  rw [BJ] at C
  simp +contextual -dsimp (maxSteps := 2000000) only [↓SD, SU, simprocAttr, Aa, hlt, e, BJ]
  intro v
  refine Ac _ C ?_
  simp +contextual -dsimp (maxSteps := 2000000) only [↓SD, SU, simprocAttr]
  refine ⟨fun hb => ?_, fun hb => ⟨by omega, Ai.le ⟨k + 1, ⟨⟨hlt, by rw [A5 _ hlt hp]; exact hb⟩, (by first | omega | (simp only; omega))⟩, rfl⟩ (by simp +contextual -dsimp only [↓SD, SU, simprocAttr, Int.natCast_add]) trivial⟩⟩
  unfold tyB; rw [Lo hlt hb, Bool.and_false]
 ·obtain rfl : k = l.length := by omega
  rw [List.take_length] at hp
  have C := X0 l hx hp (l.length + 1) 0 (by omega) (by omega)
  simp +contextual -dsimp (maxSteps := 2000000) only [↓SD, SU, simprocAttr, Aa, Nat.lt_irrefl]
  refine Ac _ C ?_
  simp +contextual -dsimp (maxSteps := 2000000) only [↓SD, SU, simprocAttr, Aa]
  congr 1
  rw [PG _ _ _ (by omega), List.drop_zero]
  unfold tyB Eo
  rw [hp, decide_eq_true (p := (l.length : Int) ≤ 200) (by omega), Bool.true_and, Bool.true_and, hA]
  cases hs : Ep 1 (arL l) with
  | none =>
   rw [decide_eq_false (p := (none : Option (List Nat)) = some []) (by simp)]
   exact decide_eq_false (by simp only [Option.map_none, Gy]; omega)
  | some r =>
   have := OI _ _ _ hs
   rw [hA] at this
   cases r with
   | nil => simp [Gy]
   | cons a r =>
    have h0 : ((a :: r).length) = r.length + 1 := rfl
    rw [decide_eq_false (p := some (a :: r) = some []) (by simp)]
    exact decide_eq_false (by simp only [Option.map_some, Gy]; omega)

end Go.Proofs.YtoffpbehgncakaaGreat
