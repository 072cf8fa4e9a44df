/-
 PatOk OF THE PROGRAM AND OF THE REFERENCE, by abstract texts. Conditions: none.
-/
import Derived.Test.YteeiaaogmjbcjaaGreatUJ15
import Derived.Test.YteeiaaogmjbcjaaGreatUJ14
set_option linter.unusedVariables false
set_option linter.unusedSimpArgs false
set_option maxRecDepth 100000
namespace Go.Proofs.YteeiaaogmjbcjaaGreat
open Go.RowKit Go.Proofs.YteeiaaogmjbcjaaGreat.Av Go.Proofs.YteeiaaogmjbcjaaGreat.Ml
open Go.Proofs.YteeiaaogmjbcjaaGreat.Av.AVal (av)

set_option maxHeartbeats 4000000 in
theorem Qj (l : List A0) (n : A0) (hl : l.length ≤ 1048576) (hk : n.kids.length ≤ 1048576) (hs : n.s.size ≤ 1048576) (hin : n.kids.length = 1 → 0 ≤ n.kids.getD 0 0 ∧ n.kids.getD 0 0 < l.length) :
  AJ Tryz.prog 59 [.agg [.sl (l.map av)], av n] (.bool (CM l n)) := by
 refine Et.F rfl (by simp; exact ⟨Ap.agg (by simp; exact AD l), AVal.clean n⟩) (Ap.bool _) ?_
 obtain ⟨kind, nn, s, kids⟩ := n
 simp only at hk hs hin ⊢
 rcases kids with _ | ⟨k0, _ | ⟨k1, _ | ⟨k2, ks⟩⟩⟩
 case cons.nil =>
  obtain ⟨g0, g1⟩ := hin rfl
  simp only [List.getD_cons_zero] at g0 g1
  have g2 : k0.toNat < l.length := by omega
  have e := Ja l default g2
  rw [Bw] at e
  simp +contextual -dsimp only [↓SD, SU, simprocAttr, Et, Bw, Ae, Aa, g0, g1, g2, e]
  (repeat' (first | intro _ | refine And.intro ?_ ?_))
  all_goals first | omega | skip
  all_goals first | (refine Ag _ (Ju _ (by omega)) ?_; simp +contextual -dsimp only [↓SD, SU, simprocAttr, *]; (repeat' (first | intro _ | refine And.intro ?_ ?_))) | (refine Ag _ (Ec _ _ _) ?_; simp +contextual -dsimp only [↓SD, SU, simprocAttr, *]; (repeat' (first | intro _ | refine And.intro ?_ ?_))) | (refine Ag _ (E3 _ _ _ (by omega)) ?_; simp +contextual -dsimp only [↓SD, SU, simprocAttr, *]; (repeat' (first | intro _ | refine And.intro ?_ ?_))) | skip
  all_goals first | omega | (simp [CM, En, g0, g1, *]; done) | trace_state
 all_goals
  simp +contextual -dsimp only [↓SD, SU, simprocAttr, Et, Bw, Aa]
  (repeat' (first | intro _ | refine And.intro ?_ ?_))
  all_goals first | omega | skip
  all_goals first | (refine Ag _ (Ju _ (by omega)) ?_; simp +contextual -dsimp only [↓SD, SU, simprocAttr, *]; (repeat' (first | intro _ | refine And.intro ?_ ?_))) | (refine Ag _ (Ec _ _ _) ?_; simp +contextual -dsimp only [↓SD, SU, simprocAttr, *]; (repeat' (first | intro _ | refine And.intro ?_ ?_))) | (refine Ag _ (E3 _ _ _ (by omega)) ?_; simp +contextual -dsimp only [↓SD, SU, simprocAttr, *]; (repeat' (first | intro _ | refine And.intro ?_ ?_))) | skip
  all_goals first | omega | (simp [CM, En, *]; done) | trace_state

set_option maxHeartbeats 4000000 in
theorem Sp (l : List A0) (n : A0) (hl : l.length ≤ 1048576) (hk : n.kids.length ≤ 1048576) (hs : n.s.size ≤ 1048576) :
  AJ Tryz.prog 36 [.agg [.sl (l.map av)], av n] (.bool (CM l n)) := by
 refine Co.F rfl (by simp; exact ⟨Ap.agg (by simp; exact AD l), AVal.clean n⟩) (Ap.bool _) ?_
 obtain ⟨kind, nn, s, kids⟩ := n
 simp only at hk hs ⊢
 rcases kids with _ | ⟨k0, _ | ⟨k1, _ | ⟨k2, ks⟩⟩⟩
 case cons.nil =>
  by_cases g : 0 ≤ k0 ∧ k0 < l.length
  ·obtain ⟨g0, g1⟩ := g
   have g2 : k0.toNat < l.length := by omega
   have e := Ja l default g2
   rw [Bw] at e
   simp +contextual -dsimp only [↓SD, SU, simprocAttr, Co, Bw, Ae, Aa, g0, g1, g2, e]
   (repeat' (first | intro _ | refine And.intro ?_ ?_))
   all_goals first | omega | skip
   all_goals first | (refine Ag _ (DX _ (by omega)) ?_; simp +contextual -dsimp only [↓SD, SU, simprocAttr, *, Aa]; (repeat' (first | intro _ | refine And.intro ?_ ?_))) | (refine Ag _ (Ge _ _ _ (by omega)) ?_; simp +contextual -dsimp only [↓SD, SU, simprocAttr, *, Aa]; (repeat' (first | intro _ | refine And.intro ?_ ?_))) | skip
   all_goals first | omega | (simp [CM, En, g0, g1, *]; done) | trace_state
  ·have ho : En A0.kind l [k0] 5 = false := Qm (by simpa using g)
   by_cases g0 : 0 ≤ k0
   case' pos => have g1 : ¬ k0 < l.length := fun h => g ⟨g0, h⟩
   case' pos => simp +contextual -dsimp only [↓SD, SU, simprocAttr, Co, Bw, Ae, Aa, g0, g1]
   case' neg => simp +contextual -dsimp only [↓SD, SU, simprocAttr, Co, Bw, Ae, Aa, g0]
   all_goals clear g
   all_goals
    (repeat' (first | intro _ | refine And.intro ?_ ?_))
    all_goals first | omega | skip
    all_goals first | (refine Ag _ (DX _ (by omega)) ?_; simp +contextual -dsimp only [↓SD, SU, simprocAttr, *, Aa]; (repeat' (first | intro _ | refine And.intro ?_ ?_))) | (refine Ag _ (Ge _ _ _ (by omega)) ?_; simp +contextual -dsimp only [↓SD, SU, simprocAttr, *, Aa]; (repeat' (first | intro _ | refine And.intro ?_ ?_))) | skip
    all_goals first | omega | (simp [CM, ho, *]; done) | trace_state
 case cons.cons.cons =>
  have q0 : ¬ ((ks.length + 1 + 1 + 1 : Nat) : Int) = 0 := by omega
  have q1 : ¬ ((ks.length + 1 + 1 + 1 : Nat) : Int) = 1 := by omega
  have q2 : ¬ ((ks.length + 1 + 1 + 1 : Nat) : Int) = 2 := by omega
  simp +contextual -dsimp only [↓SD, SU, simprocAttr, Co, Bw, Aa, q0, q1, q2]
  (repeat' (first | intro _ | refine And.intro ?_ ?_))
  all_goals first | omega | skip
  all_goals first | (refine Ag _ (DX _ (by omega)) ?_; simp +contextual -dsimp only [↓SD, SU, simprocAttr, *, Aa]; (repeat' (first | intro _ | refine And.intro ?_ ?_))) | (refine Ag _ (Ge _ _ _ (by omega)) ?_; simp +contextual -dsimp only [↓SD, SU, simprocAttr, *, Aa]; (repeat' (first | intro _ | refine And.intro ?_ ?_))) | skip
  all_goals first | omega | (simp [CM, En, *]; done) | trace_state
 all_goals
  simp +contextual -dsimp only [↓SD, SU, simprocAttr, Co, Bw, Aa]
  (repeat' (first | intro _ | refine And.intro ?_ ?_))
  all_goals first | omega | skip
  all_goals first | (refine Ag _ (DX _ (by omega)) ?_; simp +contextual -dsimp only [↓SD, SU, simprocAttr, *, Aa]; (repeat' (first | intro _ | refine And.intro ?_ ?_))) | (refine Ag _ (Ge _ _ _ (by omega)) ?_; simp +contextual -dsimp only [↓SD, SU, simprocAttr, *, Aa]; (repeat' (first | intro _ | refine And.intro ?_ ?_))) | skip
  all_goals first | omega | (simp [CM, En, *]; done) | trace_state
end Go.Proofs.YteeiaaogmjbcjaaGreat
set_option linter.unusedVariables false
set_option linter.unusedSimpArgs false
set_option maxRecDepth 100000
namespace Go.Proofs.YteeiaaogmjbcjaaGreat
open Go.RowKit Go.Proofs.YteeiaaogmjbcjaaGreat.Av Go.Proofs.YteeiaaogmjbcjaaGreat.Ml
open Go.Proofs.YteeiaaogmjbcjaaGreat.Av.AVal (av)

theorem XQ (l : List A0) (i : Nat) (hi : i < l.length) : AJ Tryz.prog 58 [.int .i64 i, .obj [.sl (l.map av)]] (.sl ((BK l i).map av)) := by
 have hc : Ap (.obj [.sl (l.map av)]) := Ap.obj (by simp; exact AD l)
 refine HQ.F rfl (by simp; exact ⟨E0 _, hc⟩) (AD _) ?_
 have e := getD_map av l i .top hi
 simp +contextual -dsimp only [↓SD, SU, simprocAttr, HQ, Aa, e, Bw, hi, BK, B5 hi]

theorem JC {l : List A0} (h : ¬ (1 ≤ (l.length : Int) ∧ (l.length : Int) ≤ 600)) : Dy l = false := by
 cases hb : Dy l with
 | false => rfl
 | true => simp only [Dy, Bool.and_eq_true, decide_eq_true_eq] at hb; exact absurd hb.1.1 h
theorem O1 {l : List A0} (h : Gb (BK l) l.length = false) : Dy l = false := by simp [Dy, h]
theorem Ma {l : List A0} {k : Nat} (h : k < l.length) (hb : Fi l k = false) : Dy l = false := by
 unfold Dy; rw [NR h hb, Bool.and_false]
theorem I2 {l : List A0} (h : Dy l = true) : (1 ≤ l.length ∧ l.length ≤ 600) ∧ Gb (BK l) l.length = true ∧ ∀ k, k < l.length → Fi l k = true := by
 simp only [Dy, Bool.and_eq_true, decide_eq_true_eq, NQ] at h
 exact ⟨by omega, h.1.2, h.2⟩
theorem V6 {l : List A0} (h1 : 1 ≤ l.length) (h2 : l.length ≤ 600) (h3 : Gb (BK l) l.length = true) (h4 : ∀ k, k < l.length → Fi l k = true) : Dy l = true := by
 simp only [Dy, Bool.and_eq_true, decide_eq_true_eq, NQ]
 exact ⟨⟨by omega, h3⟩, h4⟩

theorem Qy (l : List A0) (hx : AE.bulk l ≤ 1048576) : AJ Tryz.prog 28 [.agg [.sl (l.map av)]] (.bool (Dy l)) := by
 have hl := BJ l
 have hc : Ap (.obj [.sl (l.map av)]) := Ap.obj (by simp; exact AD l)
 refine Js.F rfl (by simp; exact Ap.agg (by simp; exact AD l)) (Ap.bool _) ?_
 simp +contextual -dsimp only [↓SD, SU, simprocAttr, Js, Aa]
 have C1 := Ec (l.length : Int) 1 600
 by_cases hsm : 1 ≤ (l.length : Int) ∧ (l.length : Int) ≤ 600
 ·rw [decide_eq_true hsm.1, decide_eq_true hsm.2] at C1
  refine Ag _ C1 ?_
  simp +contextual -dsimp only [↓SD, SU, simprocAttr, Aa]
  have C2 := UW (BK l) l.length (by omega) 58 [.obj [.sl (l.map av)]] (by simp; exact hc) (by intro hp; rfl) (fun i hi => ⟨by
   have := (Eg hx i hi).1
   rw [BK, B5 hi]; exact this, XQ l i hi⟩)
  cases ht : Gb (BK l) l.length with
  | false =>
   rw [ht] at C2
   refine Ag _ C2 ?_
   simp +contextual -dsimp only [↓SD, SU, simprocAttr, O1 ht]
  | true =>
   rw [ht] at C2
   refine Ag _ C2 ?_
   simp +contextual -dsimp only [↓SD, SU, simprocAttr, Aa]
   intro v
   refine AG (X := Nat × Nat) (fun x => ⟨[(1, .obj [.sl (l.map av)]), (3, .row 19 x.2 (varsOf (l.take x.1)).length), (21, .sl (l.map av)), (22, .int .i64 l.length), (23, .int .i64 x.1)], [(19, ⟨x.2, false, 9, 1, (varsOf (l.take x.1)).map av⟩)]⟩) (fun x => x.1 ≤ l.length ∧ ∀ i, i < x.1 → Fi l i = true) (fun x => l.length - x.1) (0, v) ⟨Nat.zero_le _, fun i h => by omega⟩ (by simp +contextual -dsimp only [↓SD, SU, simprocAttr, varsOf, List.filterMap_nil]) (by simp +contextual -dsimp only [↓SD, SU, simprocAttr, varsOf, List.filterMap_nil]) ?_
   rintro ⟨k, u⟩ ⟨hk, hp⟩
   simp only at hk hp
   by_cases hlt : k < l.length
   ·have e := getD_map av l k .top hlt
    obtain ⟨s1, s2⟩ := Eg hx k hlt
    have hin : l[k].kids.length = 1 → 0 ≤ l[k].kids.getD 0 0 ∧ l[k].kids.getD 0 0 < l.length := fun h1 => by
     have := IZ ht hlt (k := l[k].kids.getD 0 0) (by
      simp only [BK, B5 hlt]
      rw [B5 (by omega)]
      exact List.getElem_mem _)
     omega
    have C3 := Qj l l[k] (by omega) (by omega) (by omega) hin
    have C4 := IW (varsOf (l.take k)) l[k].s (by have := Mg (l.take k); simp at this; omega)
    have hI : Fi l k = (CM l l[k] && !(decide (l[k].kind = 2) && (varsOf (l.take k)).any fun x => decide (l[k].s = x))) := by simp only [Fi, B5 hlt]
    have hv := Q6 hlt
    have hvl := Mg (l.take k)
    rw [List.length_take] at hvl
    generalize l[k] = a at *
    rw [Bw] at C3
    simp +contextual -dsimp only [↓SD, SU, simprocAttr, Aa, hlt, e, Bw]
    intro w
    cases hb : CM l a with
    | false =>
     rw [hb] at C3
     refine Ag _ C3 ?_
     simp +contextual -dsimp only [↓SD, SU, simprocAttr]
     rw [Ma hlt (by rw [hI, hb]; rfl)]
    | true =>
     rw [hb] at C3
     refine Ag _ C3 ?_
     simp +contextual -dsimp only [↓SD, SU, simprocAttr]
     refine ⟨fun hk2 => ?_, fun hk2 => ?_⟩
     ·refine Yz [19] C4 rfl (by simp +contextual -dsimp only [↓SD, SU, simprocAttr, Ab, List.take_length, List.length_map]; simp [List.take_of_length_le]) ?_
      simp +contextual -dsimp only [↓SD, SU, simprocAttr, hk2, Aa]
      refine ⟨fun hc => ?_, fun hc => ?_⟩
      ·rw [Ma hlt (by rw [hI, hb, hk2, hc]; rfl)]
      ·have hIk : Fi l k = true := by rw [hI, hb, hk2, hc]; rfl
       rw [if_pos hk2] at hv
       (repeat' (first | intro _ | refine And.intro ?_ ?_))
       all_goals first | omega | (unfold maxLen; omega) | skip
       rename_i u'
       exact Ai.le ⟨(k + 1, u'), ⟨⟨hlt, fun i hi => (Nat.lt_succ_iff_lt_or_eq.1 hi).elim (hp i) (fun e => e ▸ hIk)⟩, (by first | omega | (simp only; omega))⟩, rfl⟩ (by simp +contextual -dsimp only [↓SD, SU, simprocAttr, Int.natCast_add, hv, List.length_append]) (by simp +contextual -dsimp only [↓SD, SU, simprocAttr, hv, Ab, Ra, List.map_append, EU])
     ·have hIk : Fi l k = true := by rw [hI, hb, decide_eq_false hk2]; rfl
      rw [if_neg hk2, List.append_nil] at hv
      refine ⟨by omega, Ai.le ⟨(k + 1, u), ⟨⟨hlt, fun i hi => (Nat.lt_succ_iff_lt_or_eq.1 hi).elim (hp i) (fun e => e ▸ hIk)⟩, (by first | omega | (simp only; omega))⟩, rfl⟩ (by simp +contextual -dsimp only [↓SD, SU, simprocAttr, Int.natCast_add, hv]) (by simp +contextual -dsimp only [↓SD, SU, simprocAttr, hv])⟩
   ·obtain rfl : k = l.length := by omega
    simp +contextual -dsimp only [↓SD, SU, simprocAttr, Aa, Nat.lt_irrefl]
    rw [V6 (by omega) (by omega) ht hp]
 ·have hf : (decide (1 ≤ (l.length : Int)) && decide ((l.length : Int) ≤ 600)) = false := by
   rw [Bool.and_eq_false_iff, decide_eq_false_iff_not, decide_eq_false_iff_not]; omega
  rw [hf] at C1
  refine Ag _ C1 ?_
  simp +contextual -dsimp only [↓SD, SU, simprocAttr, JC hsm]

def Yi (o : Option Nat) : Int := match o with | some m => (m : Int) | none => -1
theorem UI (l : List A0) (hx : AE.bulk l ≤ 1048576) : ∀ (f i : Nat), l.length - i < f → i ≤ 1048576 → AJ Tryz.prog 37 [.agg [.sl (l.map av)], .int .i64 i] (.int .i64 (Yi (D4 (BK l) l.length f i))) := by
 have hl := BJ l
 intro f
 induction f with
 | zero => intro i h; omega
 | succ f ih =>
  intro i hf hi0
  refine E9.F rfl (by simp; exact ⟨Ap.agg (by simp; exact AD l), E0 _⟩) (E0 _) ?_
  by_cases hi : i < l.length
  ·have e := getD_map av l i .top hi
   have hs := (Eg hx i hi).1
   have hK : BK l i = l[i].kids := by rw [BK, B5 hi]
   have hE : D4 (BK l) l.length (f + 1) i = D0 (D4 (BK l) l.length f) l[i].kids (i + 1) := by rw [D4, if_pos hi, hK]
   rw [hE]
   generalize l[i] = a at *
   simp +contextual -dsimp only [↓SD, SU, simprocAttr, E9, Aa, hi, e, Bw, Nat.not_le]
   refine ⟨by omega, by omega, ?_⟩
   refine AG (X := Nat × Nat) (fun x => ⟨[(2, .obj [.sl (l.map av)]), (5, .int .i64 x.2), (20, .sl (a.kids.map av)), (21, .int .i64 a.kids.length), (22, .int .i64 x.1)], []⟩) (fun x => x.1 ≤ a.kids.length ∧ i < x.2 ∧ x.2 ≤ l.length ∧ D0 (D4 (BK l) l.length f) a.kids (i + 1) = D0 (D4 (BK l) l.length f) (a.kids.drop x.1) x.2) (fun x => a.kids.length - x.1) (0, i + 1) ⟨Nat.zero_le _, by simp, by simp only; omega, rfl⟩ (by simp +contextual -dsimp only [↓SD, SU, simprocAttr, Int.natCast_add]) trivial ?_
   rintro ⟨j, m⟩ ⟨hj, hm1, hm2, he⟩
   simp only at hj hm1 hm2 he
   by_cases hlt : j < a.kids.length
   ·have e2 := getD_map av a.kids j .top hlt
    rw [List.drop_eq_getElem_cons hlt, D0] at he
    have C := ih m (by omega) (by omega)
    by_cases hkm : a.kids[j] = (m : Int)
    ·rw [if_pos hkm] at he
     simp +contextual -dsimp only [↓SD, SU, simprocAttr, Aa, hlt, e2, Ae, hkm]
     refine Ag _ C ?_
     cases hm' : D4 (BK l) l.length f m with
     | none =>
      rw [hm'] at he
      simp +contextual -dsimp only [↓SD, SU, simprocAttr, Yi]
      rw [he]
     | some m' =>
      rw [hm'] at he
      have := Nw (BK l) l.length f m m' hm'
      have hneg : ¬ ((m' : Int) < 0) := by omega
      simp +contextual -dsimp only [↓SD, SU, simprocAttr, Yi, hneg]
      refine ⟨by omega, Ai.le ⟨(j + 1, m'), ⟨⟨hlt, by simp only; omega, this.2, he⟩, (by first | omega | (simp only; omega))⟩, rfl⟩ (by simp +contextual -dsimp only [↓SD, SU, simprocAttr, Int.natCast_add]) trivial⟩
    ·rw [if_neg hkm] at he
     simp +contextual -dsimp only [↓SD, SU, simprocAttr, Aa, hlt, e2, Ae, hkm]
     rw [he]; rfl
   ·obtain rfl : j = a.kids.length := by omega
    rw [List.drop_length, D0] at he
    simp +contextual -dsimp only [↓SD, SU, simprocAttr, Aa, Nat.lt_irrefl]
    rw [he]; rfl
  ·have hE : D4 (BK l) l.length (f + 1) i = none := by rw [D4, if_neg hi]
   have hi' : l.length ≤ i := by omega
   simp +contextual -dsimp only [↓SD, SU, simprocAttr, E9, Aa, hi', hE]
   rfl

end Go.Proofs.YteeiaaogmjbcjaaGreat
