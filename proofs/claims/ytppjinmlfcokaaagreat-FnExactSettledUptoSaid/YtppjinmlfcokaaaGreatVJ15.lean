/-
 TyOk OF THE PROGRAM AND OF THE REFERENCE, by abstract texts. Conditions: none.
-/
import Derived.Test.YtppjinmlfcokaaaGreatVJ12
import Derived.Test.YtppjinmlfcokaaaGreatVJ14
import Derived.Test.YtppjinmlfcokaaaGreatVJ13
import Derived.Test.YtppjinmlfcokaaaGreatVJ10
import Derived.Test.YtppjinmlfcokaaaGreatProg
import Derived.Test.YtppjinmlfcokaaaGreatVAvDraw
import Derived.Test.YtppjinmlfcokaaaGreatVJ08
import Derived.Test.YtppjinmlfcokaaaGreatVGProg
set_option linter.unusedVariables false
set_option linter.unusedSimpArgs false
set_option maxRecDepth 100000
namespace Go.Proofs.YtppjinmlfcokaaaGreat
open Go.RowKit Go.Proofs.YtppjinmlfcokaaaGreat.Av Go.Proofs.YtppjinmlfcokaaaGreat.Ml
open Go.Proofs.YtppjinmlfcokaaaGreat.Av.AVal (av)

def Lv (x : AY) : Bool :=
 if x.name = bs [45, 62] ∨ x.name = bs [42] then decide (x.arity = 2)
 else if x.name = bs [114, 101, 102] then decide (x.arity = 1)
 else EC x.name
theorem Aa9 (x : AY) (hs : x.name.size ≤ 4294967296) : Ah Tryz.prog 204 [av x] (.bool (Lv x)) := by
 refine KC.F rfl (by simp; exact AVal.clean x) (Ad.bool _) ?_
 obtain ⟨v, nm, ar⟩ := x
 simp only at hs ⊢
 simp +contextual -dsimp (maxSteps := 2000000) only [↓SD, SU, simprocAttr, KC, A5]
 (repeat' (first | intro _ | refine And.intro ?_ ?_))
 all_goals first | (refine Aa _ (Fk _ (by omega)) ?_; simp +contextual -dsimp (maxSteps := 2000000) only [↓SD, SU, simprocAttr, *]) | skip
 all_goals first | (simp [Lv, *]; done) | (rename_i h; simp [Lv, h]; intros; simp_all [bs]; done) | (simp_all [Lv, bs]; done) | trace_state
theorem P5 {l : List AY} (hx : Ac.bulk l ≤ 4294967296) {x : AY} (hn : x ∈ l) : x.name.size ≤ 4294967296 := by
 have h1 := Au hn
 have h2 : Ac.bulk x = Ac.bulk x.var + Ac.bulk x.name + Ac.bulk x.arity + 1 := rfl
 have h4 : Ac.bulk x.name = x.name.size + 1 := rfl
 omega
theorem P6 {x : AY} (hn : ¬ x.name = bs []) (hv : x.var = 0) : EZ x = ((decide (0 ≤ x.arity) && decide (x.arity ≤ 2)) && Lv x) := by
 unfold EZ Lv
 rw [if_neg hn, if_pos hv]
 split
 ·by_cases h : x.arity = 2 <;> simp [h]
 ·split
  ·by_cases h : x.arity = 1 <;> simp [h]
  ·rw [Bool.and_comm]

theorem Ad4 {l : List AY} {k : Nat} (h : k < l.length) : arL (l.drop k) = l[k].arity.toNat :: arL (l.drop (k + 1)) := by
 rw [List.drop_eq_getElem_cons h]; rfl
theorem NO {l : List AY} {k : Nat} (h : k < l.length) (hb : EZ l[k] = false) : Fg l = false := by
 unfold Fg; rw [A7 _ h hb]; rfl
set_option maxHeartbeats 1000000 in
theorem Aep (l : List AY) (hx : Ac.bulk l ≤ 4294967296) : Ah Tryz.prog 189 [.sl (l.map av)] (.bool (Fg l)) := by
 have hl := Ai l
 refine MN.F rfl (by simp; exact Ak l) (Ad.bool _) ?_
 simp +contextual -dsimp (maxSteps := 2000000) only [↓SD, SU, simprocAttr, MN, Ab]
 refine Am (X := Nat × Nat) (fun x => ⟨[(3, .int .i64 x.2), (6, .sl (l.map av)), (7, .int .i64 l.length), (8, .int .i64 x.1)], []⟩) (fun x => x.1 ≤ l.length ∧ (l.take x.1).all EZ = true ∧ x.2 ≤ 1 + 2 * x.1 ∧ FR 1 (arL l) = FR x.2 (arL (l.drop x.1))) (fun x => l.length - x.1) (0, 1) ⟨Nat.zero_le _, rfl, by simp, rfl⟩ (by simp +contextual -dsimp only [↓SD, SU, simprocAttr]) trivial ?_
 rintro ⟨k, c⟩ ⟨hk, hp, hc, he⟩
 simp only at hk hp hc he
 by_cases hlt : k < l.length
 ·have e := getD_map av l k .top hlt
  have hs := P5 hx (List.getElem_mem hlt)
  rw [Ad4 hlt] at he
  have hbad : EZ l[k] = false → Fg l = false := NO hlt
  have hgood : EZ l[k] = true → (l.take (k + 1)).all EZ = true := fun h => by rw [A6 _ hlt hp]; exact h
  have CH := Aa9 l[k] hs
  have hi := @P6 l[k]
  have hia := @MD l[k]
  generalize l[k] = x at *
  obtain ⟨var, nm, ar⟩ := x
  simp only at hs he hi hia
  rw [A5] at CH
  cases c with
  | zero =>
   rw [Fw] at he
   have hno : Fg l = false := by unfold Fg; rw [he]; simp
   simp +contextual -dsimp (maxSteps := 2000000) only [↓SD, SU, simprocAttr, Ab, hlt, e, A5]
   rw [hno]
  | succ c =>
   rw [Hz] at he
   have hc0 : ¬ ((c + 1 : Nat) : Int) = 0 := by omega
   have hc1 : ((c + 1 : Nat) : Int) - 1 = c := by omega
   by_cases hn : nm = bs []
   ·have hib : EZ ⟨var, nm, ar⟩ = ((decide (0 ≤ var) && decide (var ≤ 9999)) && decide (ar = 0)) := by simp [EZ, hn]
    subst hn
    have CW := EP var 0 9999
    by_cases hw : 0 ≤ var ∧ var ≤ 9999
    ·rw [decide_eq_true hw.1, decide_eq_true hw.2] at CW hib
     by_cases har : ar = 0
     ·subst har
      simp +contextual -dsimp (maxSteps := 2000000) only [↓SD, SU, simprocAttr, Ab, hlt, e, A5, hc0, hc1]
      intro v
      refine ⟨by omega, ?_⟩
      refine Aa _ CW ?_
      simp +contextual -dsimp (maxSteps := 2000000) only [↓SD, SU, simprocAttr]
      exact ⟨by omega, Af.le ⟨(k + 1, c), ⟨⟨hlt, hgood (by rw [hib]; rfl), by simp only; omega, by simpa using he⟩, (by first | omega | (simp only; omega))⟩, rfl⟩ (by simp +contextual -dsimp only [↓SD, SU, simprocAttr, Int.natCast_add]) trivial⟩
     ·simp +contextual -dsimp (maxSteps := 2000000) only [↓SD, SU, simprocAttr, Ab, hlt, e, A5, hc0, hc1, har]
      intro v
      refine ⟨by omega, ?_⟩
      refine Aa _ CW ?_
      simp +contextual -dsimp (maxSteps := 2000000) only [↓SD, SU, simprocAttr, har]
      rw [hbad (by rw [hib, decide_eq_false har]; rfl)]
    ·have hf : (decide (0 ≤ var) && decide (var ≤ 9999)) = false := by
      rw [Bool.and_eq_false_iff, decide_eq_false_iff_not, decide_eq_false_iff_not]; omega
     rw [hf] at CW hib
     simp +contextual -dsimp (maxSteps := 2000000) only [↓SD, SU, simprocAttr, Ab, hlt, e, A5, hc0, hc1]
     intro v
     refine ⟨by omega, ?_⟩
     refine Aa _ CW ?_
     simp +contextual -dsimp (maxSteps := 2000000) only [↓SD, SU, simprocAttr]
     rw [hbad (by rw [hib]; rfl)]
   ·by_cases hv : var = 0
    ·subst hv
     have hib := hi hn rfl
     have CW := EP ar 0 2
     by_cases hr : 0 ≤ ar ∧ ar ≤ 2
     ·rw [decide_eq_true hr.1, decide_eq_true hr.2] at CW hib
      have hca : ((c : Nat) : Int) + ar = ((ar.toNat + c : Nat) : Int) := by omega
      cases hh : Lv ⟨0, nm, ar⟩ with
      | false =>
       rw [hh] at CH hib
       simp +contextual -dsimp (maxSteps := 2000000) only [↓SD, SU, simprocAttr, Ab, hlt, e, A5, hc0, hc1, hn]
       intro v
       refine ⟨by omega, ?_⟩
       refine Aa _ CW ?_
       simp +contextual -dsimp (maxSteps := 2000000) only [↓SD, SU, simprocAttr]
       refine Aa _ CH ?_
       simp +contextual -dsimp (maxSteps := 2000000) only [↓SD, SU, simprocAttr]
       rw [hbad (by rw [hib]; rfl)]
      | true =>
       rw [hh] at CH hib
       simp +contextual -dsimp (maxSteps := 2000000) only [↓SD, SU, simprocAttr, Ab, hlt, e, A5, hc0, hc1, hn]
       intro v
       refine ⟨by omega, ?_⟩
       refine Aa _ CW ?_
       simp +contextual -dsimp (maxSteps := 2000000) only [↓SD, SU, simprocAttr]
       refine Aa _ CH ?_
       simp +contextual -dsimp (maxSteps := 2000000) only [↓SD, SU, simprocAttr, hca]
       refine ⟨by omega, by omega, Af.le ⟨(k + 1, ar.toNat + c), ⟨⟨hlt, hgood (by rw [hib]; rfl), by simp only; omega, he⟩, (by first | omega | (simp only; omega))⟩, rfl⟩ (by simp +contextual -dsimp only [↓SD, SU, simprocAttr, Int.natCast_add]) trivial⟩
     ·have hf : (decide (0 ≤ ar) && decide (ar ≤ 2)) = false := by
       rw [Bool.and_eq_false_iff, decide_eq_false_iff_not, decide_eq_false_iff_not]; omega
      rw [hf] at CW hib
      simp +contextual -dsimp (maxSteps := 2000000) only [↓SD, SU, simprocAttr, Ab, hlt, e, A5, hc0, hc1, hn]
      intro v
      refine ⟨by omega, ?_⟩
      refine Aa _ CW ?_
      simp +contextual -dsimp (maxSteps := 2000000) only [↓SD, SU, simprocAttr]
      rw [hbad (by rw [hib]; rfl)]
    ·simp +contextual -dsimp (maxSteps := 2000000) only [↓SD, SU, simprocAttr, Ab, hlt, e, A5, hc0, hc1, hn, hv]
     (repeat' (first | intro _ | refine And.intro ?_ ?_))
     all_goals first | omega | skip
     rw [hbad (by simp [EZ, hn, hv])]
 ·obtain rfl : k = l.length := by omega
  rw [List.take_length] at hp
  rw [List.drop_length] at he
  simp +contextual -dsimp (maxSteps := 2000000) only [↓SD, SU, simprocAttr, Ab, Nat.lt_irrefl]
  congr 1
  unfold Fg
  rw [he, hp, Bool.true_and]
  cases c with
  | zero => simp [Fw, arL]
  | succ c => simp [arL, IH]; omega

theorem YX {l : List AY} (h : ¬ (l.length : Int) ≤ 200) : tyB l = false := by unfold tyB; rw [decide_eq_false h]; rfl
theorem V2 (l : List AY) (hx : Ac.bulk l ≤ 4294967296) : Ah Tryz.prog 158 [.agg [.sl (l.map av)]] (.bool (tyB l)) := by
 have hl := Ai l
 refine Jm.F rfl (by simp; exact Ad.agg (by simp; exact Ak l)) (Ad.bool _) ?_
 by_cases h : (l.length : Int) ≤ 200
 ·simp +contextual -dsimp (maxSteps := 2000000) only [↓SD, SU, simprocAttr, Jm, Ab, h]
  refine Aa _ (Aep l hx) ?_
  simp +contextual -dsimp (maxSteps := 2000000) only [↓SD, SU, simprocAttr]
  unfold tyB; rw [decide_eq_true h]; rfl
 ·simp +contextual -dsimp (maxSteps := 2000000) only [↓SD, SU, simprocAttr, Jm, Ab, h]
  rw [YX h]

theorem Yo (x : AY) (hs : x.name.size ≤ 4294967296) : Ah Tryz.prog 169 [av x] (.bool (EZ x)) := by
 refine Fq.F rfl (by simp; exact AVal.clean x) (Ad.bool _) ?_
 obtain ⟨v, nm, ar⟩ := x
 simp only at hs ⊢
 by_cases hn : nm = bs []
 ·subst hn
  simp +contextual -dsimp (maxSteps := 2000000) only [↓SD, SU, simprocAttr, Fq, A5]
  (repeat' (first | intro _ | refine And.intro ?_ ?_))
  all_goals simp [EZ, *]
 ·by_cases hv : v = 0
  ·subst hv
   have hib := P6 (x := ⟨0, nm, ar⟩) hn rfl
   rw [hib]
   simp +contextual -dsimp (maxSteps := 2000000) only [↓SD, SU, simprocAttr, Fq, A5, hn]
   (repeat' (first | intro _ | refine And.intro ?_ ?_))
   all_goals first | (refine Aa _ (AW _ (by omega)) ?_; simp +contextual -dsimp (maxSteps := 2000000) only [↓SD, SU, simprocAttr, *]; (repeat' (first | intro _ | refine And.intro ?_ ?_))) | skip
   all_goals first | (simp [Lv, *]; done) | (rename_i h; subst h; simp [Lv]; done) | (simp_all [Lv]; done) | trace_state
  ·simp +contextual -dsimp (maxSteps := 2000000) only [↓SD, SU, simprocAttr, Fq, A5, hn, hv]
   simp [EZ, hn, hv]

theorem Aay (A : List Nat) : ∀ (f p m : Nat), DP A f p = some m → p < m ∧ m ≤ A.length := by
 intro f
 induction f with
 | zero => intro p m h; cases h
 | succ f ih =>
  intro p m h
  have hit : ∀ c q m, q ≤ A.length → Ex (DP A f) c q = some m → q ≤ m ∧ m ≤ A.length := by
   intro c
   induction c with
   | zero => intro q m hq h; cases h; exact ⟨Nat.le_refl _, hq⟩
   | succ c ihc =>
    intro q m hq h
    rw [Ex] at h
    cases he : DP A f q with
    | none => rw [he] at h; cases h
    | some r =>
     rw [he] at h
     have h1 := ih q r he
     have h2 := ihc r m h1.2 h
     omega
  unfold DP at h
  split at h
  ·have := hit _ _ _ (by omega) h; omega
  ·cases h
theorem Sb (l : List AY) (hx : Ac.bulk l ≤ 4294967296) (hi : l.all EZ = true) : ∀ (f p : Nat), l.length - p < f → p ≤ 4294967296 → Ah Tryz.prog 143 [.agg [.sl (l.map av)], .int .i64 p] (.int .i64 (Hn (DP (arL l) f p))) := by
 have hl := Ai l
 have hA : (arL l).length = l.length := by simp [arL]
 intro f
 induction f with
 | zero => intro p h; omega
 | succ f ih =>
  intro p hf hp0
  refine HK.F rfl (by simp; exact ⟨Ad.agg (by simp; exact Ak l), BB _⟩) (BB _) ?_
  by_cases hp : p < l.length
  ·have e := getD_map av l p .top hp
   have hit := MD (List.all_eq_true.1 hi l[p] (List.getElem_mem hp))
   have hE : DP (arL l) (f + 1) p = Ex (DP (arL l) f) l[p].arity.toNat (p + 1) := by
    rw [DP, if_pos (by omega)]
    congr 1
    simp [arL, List.getD_eq_getElem?_getD, hp]
   rw [hE]
   generalize l[p] = a at *
   obtain ⟨var, nm, ar⟩ := a
   simp only at hit ⊢
   have hp' : ¬ l.length ≤ p := by omega
   simp +contextual -dsimp (maxSteps := 2000000) only [↓SD, SU, simprocAttr, HK, Ab, hp, hp', e, A5]
   (repeat' (first | intro _ | refine And.intro ?_ ?_))
   all_goals first | omega | skip
   refine Am (X := Nat × Option Nat) (fun x => ⟨[(1, .int .i64 p), (2, .obj [.sl (l.map av)]), (5, .int .i64 (Hn x.2)), (6, .int .i64 x.1)], []⟩) (fun x => x.1 ≤ ar.toNat ∧ (∀ q, x.2 = some q → p < q ∧ q ≤ l.length) ∧ Ex (DP (arL l) f) ar.toNat (p + 1) = x.2.bind (Ex (DP (arL l) f) (ar.toNat - x.1))) (fun x => ar.toNat - x.1) (0, some (p + 1)) ⟨Nat.zero_le _, fun q h => by cases h; omega, rfl⟩ (by simp +contextual -dsimp only [↓SD, SU, simprocAttr, Hn, Int.natCast_add]) trivial ?_
   rintro ⟨i, o⟩ ⟨hi1, hq, he⟩
   simp only at hi1 hq he
   have hii : decide ((i : Int) < ar) = decide (i < ar.toNat) := by congr 1; apply propext; omega
   cases o with
   | none =>
    simp +contextual -dsimp (maxSteps := 2000000) only [↓SD, SU, simprocAttr, Ab, hp, e, A5, Hn]
    rw [he]
    exact ⟨fun _ => rfl, fun _ => rfl⟩
   | some q =>
    obtain ⟨q1, q2⟩ := hq q rfl
    have hq0 : (0 : Int) ≤ q := by omega
    by_cases hlt : (i : Int) < ar
    ·have C := ih q (by omega) (by omega)
     have hstep : Ex (DP (arL l) f) ar.toNat (p + 1) = (DP (arL l) f q).bind (Ex (DP (arL l) f) (ar.toNat - (i + 1))) := by
      rw [he, show ar.toNat - i = (ar.toNat - (i + 1)) + 1 by omega]
      rfl
     have hle := Aay (arL l) f q
     simp +contextual -dsimp (maxSteps := 2000000) only [↓SD, SU, simprocAttr, Ab, hp, e, A5, Hn, hlt, hq0]
     refine Aa _ C ?_
     simp +contextual -dsimp (maxSteps := 2000000) only [↓SD, SU, simprocAttr]
     refine ⟨by omega, Af.le ⟨(i + 1, DP (arL l) f q), ⟨⟨by simp only; omega, fun m hm => by have := hle m hm; omega, hstep⟩, (by first | omega | (simp only; omega))⟩, rfl⟩ (by simp +contextual -dsimp only [↓SD, SU, simprocAttr, Int.natCast_add]) trivial⟩
    ·obtain rfl : i = ar.toNat := by omega
     rw [Nat.sub_self] at he
     have he' : Ex (DP (arL l) f) ar.toNat (p + 1) = some q := by rw [he]; rfl
     simp +contextual -dsimp (maxSteps := 2000000) only [↓SD, SU, simprocAttr, Ab, hp, e, A5, Hn, hlt, hq0]
     rw [he']
  ·have hE : DP (arL l) (f + 1) p = none := by rw [DP, if_neg (by omega)]
   have hp' : l.length ≤ p := by omega
   simp +contextual -dsimp (maxSteps := 2000000) only [↓SD, SU, simprocAttr, HK, Ab, hp', hE]
   (repeat' (first | intro _ | refine And.intro ?_ ?_))
   all_goals first | omega | rfl

theorem Ur (l : List AY) (hx : Ac.bulk l ≤ 4294967296) : Ah Tryz.prog 128 [.agg [.sl (l.map av)]] (.bool (tyB l)) := by
 have hl := Ai l
 have hA : (arL l).length = l.length := by simp [arL]
 refine MF.F rfl (by simp; exact Ad.agg (by simp; exact Ak l)) (Ad.bool _) ?_
 simp +contextual -dsimp (maxSteps := 2000000) only [↓SD, SU, simprocAttr, MF, Ab]
 refine ⟨fun h => by rw [YX (by omega)], fun h => ?_⟩
 refine Am (X := Nat) (fun k => ⟨[(1, .obj [.sl (l.map av)]), (10, .sl (l.map av)), (11, .int .i64 l.length), (12, .int .i64 k)], []⟩) (fun k => k ≤ l.length ∧ (l.take k).all EZ = true) (fun k => l.length - k) 0 ⟨Nat.zero_le _, rfl⟩ (by simp +contextual -dsimp only [↓SD, SU, simprocAttr]) trivial ?_
 rintro k ⟨hk, hp⟩
 by_cases hlt : k < l.length
 ·have e := getD_map av l k .top hlt
  have C := Yo l[k] (P5 hx (List.getElem_mem hlt))
  rw [A5] at C
  simp +contextual -dsimp (maxSteps := 2000000) only [↓SD, SU, simprocAttr, Ab, hlt, e, A5]
  intro v
  refine Aa _ C ?_
  simp +contextual -dsimp (maxSteps := 2000000) only [↓SD, SU, simprocAttr]
  refine ⟨fun hb => ?_, fun hb => ⟨by omega, Af.le ⟨k + 1, ⟨⟨hlt, by rw [A6 _ hlt hp]; exact hb⟩, (by first | omega | (simp only; omega))⟩, rfl⟩ (by simp +contextual -dsimp only [↓SD, SU, simprocAttr, Int.natCast_add]) trivial⟩⟩
  unfold tyB; rw [NO hlt hb, Bool.and_false]
 ·obtain rfl : k = l.length := by omega
  rw [List.take_length] at hp
  have C := Sb l hx hp (l.length + 1) 0 (by omega) (by omega)
  simp +contextual -dsimp (maxSteps := 2000000) only [↓SD, SU, simprocAttr, Ab, Nat.lt_irrefl]
  refine Aa _ C ?_
  simp +contextual -dsimp (maxSteps := 2000000) only [↓SD, SU, simprocAttr, Ab]
  congr 1
  rw [NF _ _ _ (by omega), List.drop_zero]
  unfold tyB Fg
  rw [hp, decide_eq_true (p := (l.length : Int) ≤ 200) (by omega), Bool.true_and, Bool.true_and, hA]
  cases hs : FR 1 (arL l) with
  | none =>
   rw [decide_eq_false (p := (none : Option (List Nat)) = some []) (by simp)]
   exact decide_eq_false (by simp only [Option.map_none, Hn]; omega)
  | some r =>
   have := Rn _ _ _ hs
   rw [hA] at this
   cases r with
   | nil => simp [Hn]
   | cons a r =>
    have h0 : ((a :: r).length) = r.length + 1 := rfl
    rw [decide_eq_false (p := some (a :: r) = some []) (by simp)]
    exact decide_eq_false (by simp only [Option.map_some, Hn]; omega)

end Go.Proofs.YtppjinmlfcokaaaGreat
set_option linter.unusedVariables false
set_option linter.unusedSimpArgs false
set_option maxRecDepth 100000
namespace Go.Proofs.YtppjinmlfcokaaaGreat
open Go.RowKit Go.Proofs.YtppjinmlfcokaaaGreat.Av Go.Proofs.YtppjinmlfcokaaaGreat.Ml
open Go.Proofs.YtppjinmlfcokaaaGreat.Av.AVal (av)

theorem Ad3 (k : Int) : Ah Tryz.prog 153 [.int .i64 k] (.int .i64 (AO k)) := by
 refine Lr.F rfl (by simp; exact BB _) (BB _) ?_
 simp +contextual -dsimp (maxSteps := 2000000) only [↓SD, SU, simprocAttr, Lr]
 (repeat' (first | intro _ | refine And.intro ?_ ?_))
 all_goals first | (simp [AO, *]; done) | (subst_vars; rfl)
theorem Yn (k : Int) : Ah Tryz.prog 132 [.int .i64 k] (.int .i64 (AO k)) := by
 refine JF.F rfl (by simp; exact BB _) (BB _) ?_
 simp +contextual -dsimp (maxSteps := 2000000) only [↓SD, SU, simprocAttr, JF]
 (repeat' (first | intro _ | refine And.intro ?_ ?_))
 all_goals first | (simp [AO, *]; done) | (subst_vars; rfl)
theorem kinds {k : Int} (h : 1 ≤ k ∧ k ≤ 19) : k = 1 ∨ k = 2 ∨ k = 3 ∨ k = 4 ∨ k = 5 ∨ k = 6 ∨ k = 7 ∨ k = 8 ∨ k = 9 ∨ k = 10 ∨ k = 11 ∨ k = 12 ∨ k = 13 ∨ k = 14 ∨ k = 15 ∨ k = 16 ∨ k = 17 ∨ k = 18 ∨ k = 19 := by omega

set_option maxHeartbeats 8000000 in
theorem AbB (nm : Node → Bool) (p : Program) (n : Node) (g : FuncId) (caps : List AV) (hpc : ∀ x ∈ caps, Ad x) (hc : ∀ hp, caps.map (AV.B5 hp) = caps) (hg : Ah Tryz.prog g (av n :: caps) (.bool (nm n)))
  (hl : p.nodes.length ≤ 4294967296) (hk : n.kids.length ≤ 4294967296) (hs : n.s.size ≤ 4294967296) (hq : n.Ae.length ≤ 4294967296) (hin : ∀ k ∈ n.kids, 0 ≤ k ∧ k < p.nodes.length) :
  Ah Tryz.prog 95 [av p, av n, .fn g caps] (.bool (AE nm p.nodes n)) := by
 refine DB.F rfl (by simp; exact ⟨AVal.clean p, AVal.clean n, Ad.fn hpc⟩) (Ad.bool _) ?_
 have CA := Ad3 n.kind
 rw [As] at hg
 by_cases hkk : 1 ≤ n.kind ∧ n.kind ≤ 19
 ·obtain ⟨kind, pos, nn, s, kids, Ae⟩ := n
  simp only at hk hs hq hin hkk CA hg
  rcases kinds hkk with rfl | rfl | rfl | rfl | rfl | rfl | rfl | rfl | rfl | rfl | rfl | rfl | rfl | rfl | rfl | rfl | rfl | rfl | rfl
  all_goals first | (rw [show AO 1 = 0 from rfl] at CA; have hA : AO 1 = 0 := rfl; clear hkk) | (rw [show AO 2 = 0 from rfl] at CA; have hA : AO 2 = 0 := rfl; clear hkk) | (rw [show AO 3 = 0 from rfl] at CA; have hA : AO 3 = 0 := rfl; clear hkk) | (rw [show AO 4 = -1 from rfl] at CA; have hA : AO 4 = -1 := rfl; clear hkk) | (rw [show AO 5 = 1 from rfl] at CA; have hA : AO 5 = 1 := rfl; clear hkk) | (rw [show AO 6 = 2 from rfl] at CA; have hA : AO 6 = 2 := rfl; clear hkk) | (rw [show AO 7 = 2 from rfl] at CA; have hA : AO 7 = 2 := rfl; clear hkk) | (rw [show AO 8 = 2 from rfl] at CA; have hA : AO 8 = 2 := rfl; clear hkk) | (rw [show AO 9 = 3 from rfl] at CA; have hA : AO 9 = 3 := rfl; clear hkk) | (rw [show AO 10 = 2 from rfl] at CA; have hA : AO 10 = 2 := rfl; clear hkk) | (rw [show AO 11 = 2 from rfl] at CA; have hA : AO 11 = 2 := rfl; clear hkk) | (rw [show AO 12 = 0 from rfl] at CA; have hA : AO 12 = 0 := rfl; clear hkk) | (rw [show AO 13 = -1 from rfl] at CA; have hA : AO 13 = -1 := rfl; clear hkk) | (rw [show AO 14 = 1 from rfl] at CA; have hA : AO 14 = 1 := rfl; clear hkk) | (rw [show AO 15 = 2 from rfl] at CA; have hA : AO 15 = 2 := rfl; clear hkk) | (rw [show AO 16 = 1 from rfl] at CA; have hA : AO 16 = 1 := rfl; clear hkk) | (rw [show AO 17 = 1 from rfl] at CA; have hA : AO 17 = 1 := rfl; clear hkk) | (rw [show AO 18 = 2 from rfl] at CA; have hA : AO 18 = 2 := rfl; clear hkk) | (rw [show AO 19 = 2 from rfl] at CA; have hA : AO 19 = 2 := rfl; clear hkk)
  case inr.inr.inr.inl =>
   rcases kids with _ | ⟨k0, _ | ⟨k1, ks⟩⟩
   case cons.nil =>
    obtain ⟨g0, g1⟩ := hin k0 (by simp)
    have g2 : k0.toNat < p.nodes.length := by omega
    have e := Lb p.nodes default g2
    rw [As] at e
    rcases Ae with _ | ⟨q0, qs⟩ <;>
    (simp +contextual -dsimp (maxSteps := 2000000) only [↓SD, SU, simprocAttr, DB, As, Ag, AA, Ab, hc]
     refine Aa _ CA ?_
     simp +contextual -dsimp (maxSteps := 2000000) only [↓SD, SU, simprocAttr, Ab, g0, g1, g2, e]
     (repeat' (first | intro _ | refine And.intro ?_ ?_))
     all_goals first | omega | skip
     all_goals first | (refine Aa _ (Iv _ _ _ (by omega)) ?_; simp +contextual -dsimp (maxSteps := 2000000) only [↓SD, SU, simprocAttr, *]; (repeat' (first | intro _ | refine And.intro ?_ ?_))) | skip
     all_goals first | omega | (simp [AE, Ay, Ax, *]; done))
   all_goals
    rcases Ae with _ | ⟨q0, qs⟩ <;>
    (simp +contextual -dsimp (maxSteps := 2000000) only [↓SD, SU, simprocAttr, DB, As, Ag, AA, Ab, hc]
     refine Aa _ CA ?_
     simp +contextual -dsimp (maxSteps := 2000000) only [↓SD, SU, simprocAttr, Ab]
     (repeat' (first | intro _ | refine And.intro ?_ ?_))
     all_goals first | omega | skip
     all_goals first | (refine Aa _ (Iv _ _ _ (by omega)) ?_; simp +contextual -dsimp (maxSteps := 2000000) only [↓SD, SU, simprocAttr, *, Ab]; (repeat' (first | intro _ | refine And.intro ?_ ?_))) | skip
     all_goals first | omega | (simp [AE, Ay, Ax, *]; done))
  case inr.inr.inr.inr.inr.inr.inr.inl =>
   cases hb : nm ⟨8, pos, nn, s, kids, Ae⟩ <;> rw [hb] at hg <;>
   rcases kids with _ | ⟨k0, ks⟩
   case false.cons | true.cons =>
    obtain ⟨g0, g1⟩ := hin k0 (by simp)
    have g2 : k0.toNat < p.nodes.length := by omega
    have e := Lb p.nodes default g2
    rw [As] at e
    rcases Ae with _ | ⟨q0, qs⟩ <;>
    (simp +contextual -dsimp (maxSteps := 2000000) only [↓SD, SU, simprocAttr, DB, As, Ag, AA, Ab, hc]
     refine Aa _ CA ?_
     simp +contextual -dsimp (maxSteps := 2000000) only [↓SD, SU, simprocAttr, Ab, g0, g1, g2, e, hc]
     (repeat' (first | intro _ | refine And.intro ?_ ?_))
     all_goals first | omega | skip
     all_goals first | (subst_vars; refine Aa _ hg ?_; simp +contextual -dsimp (maxSteps := 2000000) only [↓SD, SU, simprocAttr, *, Ab]; (repeat' (first | intro _ | refine And.intro ?_ ?_))) | skip
     all_goals first | omega | (simp [AE, Ay, Ax, *]; done) | (simp [AE, Ay, Ax, *]; omega) | trace_state)
   all_goals
    rcases Ae with _ | ⟨q0, qs⟩ <;>
    (simp +contextual -dsimp (maxSteps := 2000000) only [↓SD, SU, simprocAttr, DB, As, Ag, AA, Ab, hc]
     refine Aa _ CA ?_
     simp +contextual -dsimp (maxSteps := 2000000) only [↓SD, SU, simprocAttr, Ab, hc]
     (repeat' (first | intro _ | refine And.intro ?_ ?_))
     all_goals first | omega | skip
     all_goals first | (subst_vars; refine Aa _ hg ?_; simp +contextual -dsimp (maxSteps := 2000000) only [↓SD, SU, simprocAttr, *, Ab]; (repeat' (first | intro _ | refine And.intro ?_ ?_))) | skip
     all_goals first | omega | (simp [AE, Ay, Ax, *]; done))
  all_goals
   rcases Ae with _ | ⟨q0, qs⟩ <;>
   ((try simp only [List.length_cons] at hq)
    simp +contextual -dsimp (maxSteps := 2000000) only [↓SD, SU, simprocAttr, DB, As, Ag, Ab, hc]
    refine Aa _ CA ?_
    simp +contextual -dsimp (maxSteps := 2000000) only [↓SD, SU, simprocAttr, Ab, hc]
    (repeat' (first | intro _ | refine And.intro ?_ ?_))
    all_goals first | omega | skip
    all_goals first | (subst_vars; refine Aa _ hg ?_; simp +contextual -dsimp (maxSteps := 2000000) only [↓SD, SU, simprocAttr, *]; (repeat' (first | intro _ | refine And.intro ?_ ?_))) | (refine Aa _ (EP _ _ _) ?_; simp +contextual -dsimp (maxSteps := 2000000) only [↓SD, SU, simprocAttr, *]; (repeat' (first | intro _ | refine And.intro ?_ ?_))) | (refine Aa _ X0 ?_; simp +contextual -dsimp (maxSteps := 2000000) only [↓SD, SU, simprocAttr, *]; refine Aa _ (Gd opsL _ (by decide)) ?_; simp +contextual -dsimp (maxSteps := 2000000) only [↓SD, SU, simprocAttr, *]; (repeat' (first | intro _ | refine And.intro ?_ ?_))) | skip
    all_goals first | omega | (simp [AE, Ay, Ax, *]; done) | (have kne : kids ≠ [] := (fun h => by subst h; simp at *); simp [AE, hA, kne]; done) | (simp [AE, hA, *]; omega) | trace_state)
 ·obtain ⟨kind, pos, nn, s, kids, Ae⟩ := n
  simp only at hk hs hq hin hkk CA hg
  have c1 : ¬ kind = 1 := by omega
  have c2 : ¬ kind = 2 := by omega
  have c3 : ¬ kind = 3 := by omega
  have c4 : ¬ kind = 4 := by omega
  have c5 : ¬ kind = 5 := by omega
  have c6 : ¬ kind = 6 := by omega
  have c7 : ¬ kind = 7 := by omega
  have c8 : ¬ kind = 8 := by omega
  have c9 : ¬ kind = 9 := by omega
  have c10 : ¬ kind = 10 := by omega
  have c11 : ¬ kind = 11 := by omega
  have c12 : ¬ kind = 12 := by omega
  have c13 : ¬ kind = 13 := by omega
  have c14 : ¬ kind = 14 := by omega
  have c15 : ¬ kind = 15 := by omega
  have c16 : ¬ kind = 16 := by omega
  have c17 : ¬ kind = 17 := by omega
  have c18 : ¬ kind = 18 := by omega
  have c19 : ¬ kind = 19 := by omega
  have hA : AO kind = -1 := by simp [AO, c1, c2, c3, c4, c5, c6, c7, c8, c9, c10, c11, c12, c13, c14, c15, c16, c17, c18, c19]
  rw [hA] at CA
  simp +contextual -dsimp (maxSteps := 2000000) only [↓SD, SU, simprocAttr, DB, As, Ag, Ab, hc]
  refine Aa _ CA ?_
  simp +contextual -dsimp (maxSteps := 2000000) only [↓SD, SU, simprocAttr, Ab, hc, c1, c2, c3, c4, c5, c6, c7, c8, c9, c10, c11, c12, c13, c14, c15, c16, c17, c18, c19]
  (repeat' (first | intro _ | refine And.intro ?_ ?_))
  all_goals first | omega | (simp [AE, hA, c1, c2, c3, c4, c5, c6, c7, c8, c9, c10, c11, c12, c13, c14, c15, c16, c17, c18, c19]; done) | trace_state
end Go.Proofs.YtppjinmlfcokaaaGreat
set_option linter.unusedVariables false
set_option maxRecDepth 100000
namespace Go.Proofs.YtppjinmlfcokaaaGreat
open Go.Proofs.YtppjinmlfcokaaaGreat.Av

theorem MZ : Tryz.prog.follows .mixedOrders = true := by kernel_rfl

def Df : Ir Tryz.prog 103 [] [] 2 := ⟨_, _, Tryz.func103, MZ, by kernel_rfl, Aj [] Tryz.progTables (by conv => lhs; cbv) (by kernel_rfl)⟩
def Cw : Ir Tryz.prog 50 [] [] 2 := ⟨_, _, Tryz.func50, MZ, by kernel_rfl, Aj [] Tryz.progTables (by conv => lhs; cbv) (by kernel_rfl)⟩
end Go.Proofs.YtppjinmlfcokaaaGreat
set_option linter.unusedVariables false
set_option linter.unusedSimpArgs false
set_option maxRecDepth 100000
namespace Go.Proofs.YtppjinmlfcokaaaGreat
open Go.RowKit Go.Proofs.YtppjinmlfcokaaaGreat.Av Go.Proofs.YtppjinmlfcokaaaGreat.Ml
open Go.Proofs.YtppjinmlfcokaaaGreat.Av.AVal (av)

theorem NI (l : List Pat) (g : FuncId) (caps : List AV) (p : Pat → Bool) (hl : l.length ≤ 1099511627776) (hp : ∀ x ∈ caps, Ad x) (hc : ∀ hp, caps.map (AV.B5 hp) = caps) (hg : ∀ x ∈ l, Ah Tryz.prog g (av x :: caps) (.bool (p x))) :
  Ah Tryz.prog 103 [.sl (l.map av), .fn g caps] (.int .i64 (indexOf l p)) := by
 refine Df.F rfl (by simp; exact ⟨Ak l, Ad.fn hp⟩) (Ad.int _ _) ?_
 simp +contextual -dsimp only [↓SD, SU, simprocAttr, Df, Ab]
 refine Am (X := Nat) (fun k => ⟨[(0, .sl (l.map av)), (1, .fn g caps), (7, .int .i64 l.length), (8, .int .i64 k)], []⟩) (fun k => k ≤ l.length ∧ (l.take k).all (fun x => !p x) = true) (fun k => l.length - k) 0 ⟨Nat.zero_le _, rfl⟩ (by simp +contextual -dsimp only [↓SD, SU, simprocAttr]) trivial ?_
 intro k ⟨hk, hpk⟩
 by_cases hlt : k < l.length
 ·have e := getD_map av l k .top hlt
  have C := hg l[k] (List.getElem_mem hlt)
  rw [B7] at C
  simp +contextual -dsimp only [↓SD, SU, simprocAttr, Ab, e, B7, hlt, hc]
  refine Aa _ C ?_
  simp +contextual -dsimp only [↓SD, SU, simprocAttr]
  refine ⟨fun h1 => by rw [LO hlt hpk h1], fun h1 => ⟨by omega, ?_⟩⟩
  exact Af.le ⟨k + 1, ⟨⟨hlt, by rw [A6 _ hlt hpk, h1]; rfl⟩, (by first | omega | (simp only; omega))⟩, rfl⟩ (by simp +contextual -dsimp only [↓SD, SU, simprocAttr, Int.natCast_add]) trivial
 ·obtain rfl : k = l.length := by omega
  rw [List.take_length] at hpk
  simp +contextual -dsimp only [↓SD, SU, simprocAttr, Ab, Nat.lt_irrefl, Jn hpk]
theorem Lf (l : List Pat) (g : FuncId) (caps : List AV) (p : Pat → Bool) (hl : l.length ≤ 1099511627776) (hp : ∀ x ∈ caps, Ad x) (hc : ∀ hp, caps.map (AV.B5 hp) = caps) (hg : ∀ x ∈ l, Ah Tryz.prog g (av x :: caps) (.bool (p x))) :
  Ah Tryz.prog 50 [.sl (l.map av), .fn g caps] (.bool (l.any p)) := by
 refine Cw.F rfl (by simp; exact ⟨Ak l, Ad.fn hp⟩) (Ad.bool _) ?_
 simp +contextual -dsimp only [↓SD, SU, simprocAttr, Cw, hc]
 refine Aa _ (NI l g caps p hl hp hc hg) ?_
 simp +contextual -dsimp only [↓SD, SU, simprocAttr, KH]

end Go.Proofs.YtppjinmlfcokaaaGreat
set_option linter.unusedVariables false
set_option maxRecDepth 100000
namespace Go.Proofs.YtppjinmlfcokaaaGreat
open Go.Proofs.YtppjinmlfcokaaaGreat.Av

theorem Lx : Tryz.prog.follows .mixedOrders = true := by kernel_rfl

def CY : Ir Tryz.prog 156 [] [] 2 := ⟨_, _, Tryz.func156, Lx, by kernel_rfl, Aj [] Tryz.progTables (by conv => lhs; cbv) (by kernel_rfl)⟩
def Cp : Ir Tryz.prog 96 [] [] 2 := ⟨_, _, Tryz.func96, Lx, by kernel_rfl, Aj [] Tryz.progTables (by conv => lhs; cbv) (by kernel_rfl)⟩
end Go.Proofs.YtppjinmlfcokaaaGreat
set_option linter.unusedVariables false
set_option linter.unusedSimpArgs false
set_option maxRecDepth 100000
namespace Go.Proofs.YtppjinmlfcokaaaGreat
open Go.RowKit Go.Proofs.YtppjinmlfcokaaaGreat.Av Go.Proofs.YtppjinmlfcokaaaGreat.Ml
open Go.Proofs.YtppjinmlfcokaaaGreat.Av.AVal (av)

theorem Ng (l : List BF) (g : FuncId) (caps : List AV) (p : BF → Bool) (hl : l.length ≤ 1099511627776) (hp : ∀ x ∈ caps, Ad x) (hc : ∀ hp, caps.map (AV.B5 hp) = caps) (hg : ∀ x ∈ l, Ah Tryz.prog g (av x :: caps) (.bool (p x))) :
  Ah Tryz.prog 156 [.sl (l.map av), .fn g caps] (.int .i64 (indexOf l p)) := by
 refine CY.F rfl (by simp; exact ⟨Ak l, Ad.fn hp⟩) (Ad.int _ _) ?_
 simp +contextual -dsimp (maxSteps := 2000000) only [↓SD, SU, simprocAttr, CY, Ab]
 refine Am (X := Nat) (fun k => ⟨[(0, .sl (l.map av)), (1, .fn g caps), (7, .int .i64 l.length), (8, .int .i64 k)], []⟩) (fun k => k ≤ l.length ∧ (l.take k).all (fun x => !p x) = true) (fun k => l.length - k) 0 ⟨Nat.zero_le _, rfl⟩ (by simp +contextual -dsimp only [↓SD, SU, simprocAttr]) trivial ?_
 intro k ⟨hk, hpk⟩
 by_cases hlt : k < l.length
 ·have e := getD_map av l k .top hlt
  have C := hg l[k] (List.getElem_mem hlt)
  rw [BE] at C
  simp +contextual -dsimp (maxSteps := 2000000) only [↓SD, SU, simprocAttr, Ab, e, BE, hlt, hc]
  refine Aa _ C ?_
  simp +contextual -dsimp (maxSteps := 2000000) only [↓SD, SU, simprocAttr]
  refine ⟨fun h1 => by rw [LO hlt hpk h1], fun h1 => ⟨by omega, ?_⟩⟩
  exact Af.le ⟨k + 1, ⟨⟨hlt, by rw [A6 _ hlt hpk, h1]; rfl⟩, (by first | omega | (simp only; omega))⟩, rfl⟩ (by simp +contextual -dsimp only [↓SD, SU, simprocAttr, Int.natCast_add]) trivial
 ·obtain rfl : k = l.length := by omega
  rw [List.take_length] at hpk
  simp +contextual -dsimp (maxSteps := 2000000) only [↓SD, SU, simprocAttr, Ab, Nat.lt_irrefl, Jn hpk]
theorem KT (l : List BF) (g : FuncId) (caps : List AV) (p : BF → Bool) (hl : l.length ≤ 1099511627776) (hp : ∀ x ∈ caps, Ad x) (hc : ∀ hp, caps.map (AV.B5 hp) = caps) (hg : ∀ x ∈ l, Ah Tryz.prog g (av x :: caps) (.bool (p x))) :
  Ah Tryz.prog 96 [.sl (l.map av), .fn g caps] (.bool (l.any p)) := by
 refine Cp.F rfl (by simp; exact ⟨Ak l, Ad.fn hp⟩) (Ad.bool _) ?_
 simp +contextual -dsimp (maxSteps := 2000000) only [↓SD, SU, simprocAttr, Cp, hc]
 refine Aa _ (Ng l g caps p hl hp hc hg) ?_
 simp +contextual -dsimp (maxSteps := 2000000) only [↓SD, SU, simprocAttr, KH]

end Go.Proofs.YtppjinmlfcokaaaGreat
