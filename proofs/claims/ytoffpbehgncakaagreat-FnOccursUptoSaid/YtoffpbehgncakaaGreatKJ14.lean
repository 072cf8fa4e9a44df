/-
 PatOk OF THE PROGRAM AND OF THE REFERENCE, by abstract texts. Conditions: none.
-/
import Derived.Test.YtoffpbehgncakaaGreatKJ13
set_option linter.unusedVariables false
set_option linter.unusedSimpArgs false
set_option maxRecDepth 100000
namespace Go.Proofs.YtoffpbehgncakaaGreat
open Go.RowKit Go.Proofs.YtoffpbehgncakaaGreat.Av Go.Proofs.YtoffpbehgncakaaGreat.Ml
open Go.Proofs.YtoffpbehgncakaaGreat.Av.AVal (av)

theorem XR (l : List BD) (i : Nat) (hi : i < l.length) : AH Tryz.prog 73 [.int .i64 i, .obj [.sl (l.map av)]] (.sl ((DV l i).map av)) := by
 have hc : Ap (.obj [.sl (l.map av)]) := Ap.obj (by simp; exact AQ l)
 refine HY.F rfl (by simp; exact ⟨Cr _, hc⟩) (AQ _) ?_
 have e := getD_map av l i .top hi
 simp +contextual -dsimp only [↓SD, SU, simprocAttr, HY, Aa, e, Bw, hi, DV, DO hi]

theorem JO {l : List BD} (h : ¬ (1 ≤ (l.length : Int) ∧ (l.length : Int) ≤ 600)) : F5 l = false := by
 cases hb : F5 l with
 | false => rfl
 | true => simp only [F5, Bool.and_eq_true, decide_eq_true_eq] at hb; exact absurd hb.1.1 h
theorem Pb {l : List BD} (h : Eg (DV l) l.length = false) : F5 l = false := by simp [F5, h]
theorem Md {l : List BD} {k : Nat} (h : k < l.length) (hb : Hv l k = false) : F5 l = false := by
 unfold F5; rw [Vl h hb, Bool.and_false]
theorem V9 {l : List BD} (h1 : 1 ≤ l.length) (h2 : l.length ≤ 600) (h3 : Eg (DV l) l.length = true) (h4 : ∀ k, k < l.length → Hv l k = true) : F5 l = true := by
 simp only [F5, Bool.and_eq_true, decide_eq_true_eq, Z2]
 exact ⟨⟨by omega, h3⟩, h4⟩

theorem QK (l : List BD) (hx : AE.bulk l ≤ 1099511627776) : AH Tryz.prog 37 [.agg [.sl (l.map av)]] (.bool (F5 l)) := by
 have hl := A2 l
 have hc : Ap (.obj [.sl (l.map av)]) := Ap.obj (by simp; exact AQ l)
 refine Jz.F rfl (by simp; exact Ap.agg (by simp; exact AQ l)) (Ap.bool _) ?_
 simp +contextual -dsimp only [↓SD, SU, simprocAttr, Jz, Aa]
 have C1 := Dn (l.length : Int) 1 600
 by_cases hsm : 1 ≤ (l.length : Int) ∧ (l.length : Int) ≤ 600
 ·rw [decide_eq_true hsm.1, decide_eq_true hsm.2] at C1
  refine Ac _ C1 ?_
  simp +contextual -dsimp only [↓SD, SU, simprocAttr, Aa]
  have C2 := M8 (DV l) l.length (by omega) 73 [.obj [.sl (l.map av)]] (by simp; exact hc) (by intro hp; rfl) (fun i hi => ⟨by
   have := (Ga hx i hi).1
   rw [DV, DO hi]; exact this, XR l i hi⟩)
  cases ht : Eg (DV l) l.length with
  | false =>
   rw [ht] at C2
   refine Ac _ C2 ?_
   simp +contextual -dsimp only [↓SD, SU, simprocAttr, Pb ht]
  | true =>
   rw [ht] at C2
   refine Ac _ C2 ?_
   simp +contextual -dsimp only [↓SD, SU, simprocAttr, Aa]
   intro v
   refine AB (X := Nat × Nat) (fun x => ⟨[(1, .obj [.sl (l.map av)]), (3, .row 19 x.2 (varsOf (l.take x.1)).length), (21, .sl (l.map av)), (22, .int .i64 l.length), (23, .int .i64 x.1)], [(19, ⟨x.2, false, 9, 1, (varsOf (l.take x.1)).map av⟩)]⟩) (fun x => x.1 ≤ l.length ∧ ∀ i, i < x.1 → Hv l i = true) (fun x => l.length - x.1) (0, v) ⟨Nat.zero_le _, fun i h => by omega⟩ (by simp +contextual -dsimp only [↓SD, SU, simprocAttr, varsOf, List.filterMap_nil]) (by simp +contextual -dsimp only [↓SD, SU, simprocAttr, varsOf, List.filterMap_nil]) ?_
   rintro ⟨k, u⟩ ⟨hk, hp⟩
   simp only at hk hp
   by_cases hlt : k < l.length
   ·have e := getD_map av l k .top hlt
    obtain ⟨s1, s2⟩ := Ga hx k hlt
    have hin : l[k].kids.length = 1 → 0 ≤ l[k].kids.getD 0 0 ∧ l[k].kids.getD 0 0 < l.length := fun h1 => by
     have := I7 ht hlt (k := l[k].kids.getD 0 0) (by
      simp only [DV, DO hlt]
      rw [DO (by omega)]
      exact List.getElem_mem _)
     omega
    have C3 := Qr l l[k] (by omega) (by omega) (by omega) hin
    have C4 := EH (varsOf (l.take k)) l[k].s (by have := Hc (l.take k); simp at this; omega)
    have hI : Hv l k = (ES l l[k] && !(decide (l[k].kind = 2) && (varsOf (l.take k)).any fun x => decide (l[k].s = x))) := by simp only [Hv, DO hlt]
    have hv := Ie hlt
    have hvl := Hc (l.take k)
    rw [List.length_take] at hvl
    generalize l[k] = a at *
    rw [Bw] at C3
    simp +contextual -dsimp only [↓SD, SU, simprocAttr, Aa, hlt, e, Bw]
    intro w
    cases hb : ES l a with
    | false =>
     rw [hb] at C3
     refine Ac _ C3 ?_
     simp +contextual -dsimp only [↓SD, SU, simprocAttr]
     rw [Md hlt (by rw [hI, hb]; rfl)]
    | true =>
     rw [hb] at C3
     refine Ac _ C3 ?_
     simp +contextual -dsimp only [↓SD, SU, simprocAttr]
     refine ⟨fun hk2 => ?_, fun hk2 => ?_⟩
     ·refine Yv [19] C4 rfl (by simp +contextual -dsimp only [↓SD, SU, simprocAttr, Ab, List.take_length, List.length_map]; simp [List.take_of_length_le]) ?_
      simp +contextual -dsimp only [↓SD, SU, simprocAttr, hk2, Aa]
      refine ⟨fun hc => ?_, fun hc => ?_⟩
      ·rw [Md hlt (by rw [hI, hb, hk2, hc]; rfl)]
      ·have hIk : Hv l k = true := by rw [hI, hb, hk2, hc]; rfl
       rw [if_pos hk2] at hv
       (repeat' (first | intro _ | refine And.intro ?_ ?_))
       all_goals first | omega | (unfold maxLen; omega) | skip
       rename_i u'
       exact Ai.le ⟨(k + 1, u'), ⟨⟨hlt, fun i hi => (Nat.lt_succ_iff_lt_or_eq.1 hi).elim (hp i) (fun e => e ▸ hIk)⟩, (by first | omega | (simp only; omega))⟩, rfl⟩ (by simp +contextual -dsimp only [↓SD, SU, simprocAttr, Int.natCast_add, hv, List.length_append]) (by simp +contextual -dsimp only [↓SD, SU, simprocAttr, hv, Ab, DT, List.map_append, Ec])
     ·have hIk : Hv l k = true := by rw [hI, hb, decide_eq_false hk2]; rfl
      rw [if_neg hk2, List.append_nil] at hv
      refine ⟨by omega, Ai.le ⟨(k + 1, u), ⟨⟨hlt, fun i hi => (Nat.lt_succ_iff_lt_or_eq.1 hi).elim (hp i) (fun e => e ▸ hIk)⟩, (by first | omega | (simp only; omega))⟩, rfl⟩ (by simp +contextual -dsimp only [↓SD, SU, simprocAttr, Int.natCast_add, hv]) (by simp +contextual -dsimp only [↓SD, SU, simprocAttr, hv])⟩
   ·obtain rfl : k = l.length := by omega
    simp +contextual -dsimp only [↓SD, SU, simprocAttr, Aa, Nat.lt_irrefl]
    rw [V9 (by omega) (by omega) ht hp]
 ·have hf : (decide (1 ≤ (l.length : Int)) && decide ((l.length : Int) ≤ 600)) = false := by
   rw [Bool.and_eq_false_iff, decide_eq_false_iff_not, decide_eq_false_iff_not]; omega
  rw [hf] at C1
  refine Ac _ C1 ?_
  simp +contextual -dsimp only [↓SD, SU, simprocAttr, JO hsm]

def Gy (o : Option Nat) : Int := match o with | some m => (m : Int) | none => -1
theorem UP (l : List BD) (hx : AE.bulk l ≤ 1099511627776) : ∀ (f i : Nat), l.length - i < f → i ≤ 1099511627776 → AH Tryz.prog 159 [.agg [.sl (l.map av)], .int .i64 i] (.int .i64 (Gy (Cl (DV l) l.length f i))) := by
 have hl := A2 l
 intro f
 induction f with
 | zero => intro i h; omega
 | succ f ih =>
  intro i hf hi0
  refine Fc.F rfl (by simp; exact ⟨Ap.agg (by simp; exact AQ l), Cr _⟩) (Cr _) ?_
  by_cases hi : i < l.length
  ·have e := getD_map av l i .top hi
   have hs := (Ga hx i hi).1
   have hK : DV l i = l[i].kids := by rw [DV, DO hi]
   have hE : Cl (DV l) l.length (f + 1) i = Cy (Cl (DV l) l.length f) l[i].kids (i + 1) := by rw [Cl, if_pos hi, hK]
   rw [hE]
   generalize l[i] = a at *
   simp +contextual -dsimp only [↓SD, SU, simprocAttr, Fc, Aa, hi, e, Bw, Nat.not_le]
   refine ⟨by omega, by omega, ?_⟩
   refine AB (X := Nat × Nat) (fun x => ⟨[(2, .obj [.sl (l.map av)]), (5, .int .i64 x.2), (20, .sl (a.kids.map av)), (21, .int .i64 a.kids.length), (22, .int .i64 x.1)], []⟩) (fun x => x.1 ≤ a.kids.length ∧ i < x.2 ∧ x.2 ≤ l.length ∧ Cy (Cl (DV l) l.length f) a.kids (i + 1) = Cy (Cl (DV l) l.length f) (a.kids.drop x.1) x.2) (fun x => a.kids.length - x.1) (0, i + 1) ⟨Nat.zero_le _, by simp, by simp only; omega, rfl⟩ (by simp +contextual -dsimp only [↓SD, SU, simprocAttr, Int.natCast_add]) trivial ?_
   rintro ⟨j, m⟩ ⟨hj, hm1, hm2, he⟩
   simp only at hj hm1 hm2 he
   by_cases hlt : j < a.kids.length
   ·have e2 := getD_map av a.kids j .top hlt
    rw [List.drop_eq_getElem_cons hlt, Cy] at he
    have C := ih m (by omega) (by omega)
    by_cases hkm : a.kids[j] = (m : Int)
    ·rw [if_pos hkm] at he
     simp +contextual -dsimp only [↓SD, SU, simprocAttr, Aa, hlt, e2, Af, hkm]
     refine Ac _ C ?_
     cases hm' : Cl (DV l) l.length f m with
     | none =>
      rw [hm'] at he
      simp +contextual -dsimp only [↓SD, SU, simprocAttr, Gy]
      rw [he]
     | some m' =>
      rw [hm'] at he
      have := I2 (DV l) l.length f m m' hm'
      have hneg : ¬ ((m' : Int) < 0) := by omega
      simp +contextual -dsimp only [↓SD, SU, simprocAttr, Gy, hneg]
      refine ⟨by omega, Ai.le ⟨(j + 1, m'), ⟨⟨hlt, by simp only; omega, this.2, he⟩, (by first | omega | (simp only; omega))⟩, rfl⟩ (by simp +contextual -dsimp only [↓SD, SU, simprocAttr, Int.natCast_add]) trivial⟩
    ·rw [if_neg hkm] at he
     simp +contextual -dsimp only [↓SD, SU, simprocAttr, Aa, hlt, e2, Af, hkm]
     rw [he]; rfl
   ·obtain rfl : j = a.kids.length := by omega
    rw [List.drop_length, Cy] at he
    simp +contextual -dsimp only [↓SD, SU, simprocAttr, Aa, Nat.lt_irrefl]
    rw [he]; rfl
  ·have hE : Cl (DV l) l.length (f + 1) i = none := by rw [Cl, if_neg hi]
   have hi' : l.length ≤ i := by omega
   simp +contextual -dsimp only [↓SD, SU, simprocAttr, Fc, Aa, hi', hE]
   rfl

end Go.Proofs.YtoffpbehgncakaaGreat
set_option linter.unusedVariables false
set_option linter.unusedSimpArgs false
set_option maxRecDepth 100000
namespace Go.Proofs.YtoffpbehgncakaaGreat
open Go.RowKit Go.Proofs.YtoffpbehgncakaaGreat.Av Go.Proofs.YtoffpbehgncakaaGreat.Ml
open Go.Proofs.YtoffpbehgncakaaGreat.Av.AVal (av)

theorem Un {l : List BD} {i : Nat} (hi : i ≤ l.length) (s : ByteArray) : ((varsOf (l.take i)).any fun x => decide (s = x)) = true ↔ ∃ j, ∃ h : j < l.length, j < i ∧ l[j].kind = 2 ∧ l[j].s = s := by
 rw [List.any_eq_true]
 simp only [varsOf, List.mem_filterMap, decide_eq_true_eq]
 constructor
 ·rintro ⟨x, ⟨n, hn, hx⟩, rfl⟩
  obtain ⟨j, hj, rfl⟩ := List.mem_take_iff_getElem.1 hn
  split at hx
  ·rename_i hk
   exact ⟨j, by omega, by omega, hk, by simpa using hx⟩
  ·cases hx
 ·rintro ⟨j, hj, hji, hk, rfl⟩
  exact ⟨_, ⟨l[j], List.mem_take_iff_getElem.2 ⟨j, by omega, rfl⟩, by simp [hk]⟩, rfl⟩

def Abk (l : List BD) (a : BD) (j : Nat) : Prop := ∀ i, ∀ h : i < l.length, i < j → ¬ (a.kind = 2 ∧ l[i].kind = 2 ∧ l[i].s = a.s)
theorem Qn (l : List BD) (hx : AE.bulk l ≤ 1099511627776) : AH Tryz.prog 104 [.agg [.sl (l.map av)]] (.bool (F5 l)) := by
 have hl := A2 l
 refine Jv.F rfl (by simp; exact Ap.agg (by simp; exact AQ l)) (Ap.bool _) ?_
 simp +contextual -dsimp only [↓SD, SU, simprocAttr, Jv, Aa]
 refine ⟨fun h1 => ⟨fun h2 => by rw [JO (by omega)], fun h2 => ?_⟩, fun h1 => by rw [JO (by omega)]⟩
 refine AB (X := Nat) (fun k => ⟨[(1, .obj [.sl (l.map av)]), (17, .sl (l.map av)), (18, .int .i64 l.length), (19, .int .i64 k)], []⟩) (fun k => k ≤ l.length ∧ ∀ i, i < k → Hv l i = true) (fun k => l.length - k) 0 ⟨Nat.zero_le _, fun i h => by omega⟩ (by simp +contextual -dsimp only [↓SD, SU, simprocAttr]) trivial ?_
 intro k ⟨hk, hp⟩
 by_cases hlt : k < l.length
 ·have e := getD_map av l k .top hlt
  obtain ⟨s1, s2⟩ := Ga hx k hlt
  have C3 := Ss l l[k] (by omega) (by omega) (by omega)
  have hI : Hv l k = (ES l l[k] && !(decide (l[k].kind = 2) && (varsOf (l.take k)).any fun x => decide (l[k].s = x))) := by simp only [Hv, DO hlt]
  have hany := Un (l := l) (i := k) (by omega) l[k].s
  generalize l[k] = a at *
  rw [Bw] at C3
  simp +contextual -dsimp only [↓SD, SU, simprocAttr, Aa, hlt, e, Bw]
  intro w
  cases hb : ES l a with
  | false =>
   rw [hb] at C3
   refine Ac _ C3 ?_
   simp +contextual -dsimp only [↓SD, SU, simprocAttr]
   rw [Md hlt (by rw [hI, hb]; rfl)]
  | true =>
   rw [hb] at C3
   refine Ac _ C3 ?_
   simp +contextual -dsimp only [↓SD, SU, simprocAttr]
   refine AB (X := Nat) (fun j => ⟨[(1, .obj [.sl (l.map av)]), (3, .int .i64 k), (4, .ptr 4 w 0 0), (5, .int .i64 j), (17, .sl (l.map av)), (18, .int .i64 l.length), (19, .int .i64 k)], [(4, ⟨w, false, 83, 4, [av a]⟩)]⟩) (fun j => j ≤ k ∧ Abk l a j) (fun j => k - j) 0 ⟨Nat.zero_le _, fun i _ h => by omega⟩ (by simp +contextual -dsimp only [↓SD, SU, simprocAttr]) (by simp +contextual -dsimp only [↓SD, SU, simprocAttr, Bw]) ?_
   intro j ⟨hj, hq⟩
   by_cases hjk : j < k
   ·have hjl : j < l.length := by omega
    have e2 := getD_map av l j .top hjl
    simp +contextual -dsimp only [↓SD, SU, simprocAttr, Aa, hjk, hjl, e2, Bw]
    have hq2 : ¬ (a.kind = 2 ∧ l[j].kind = 2 ∧ l[j].s = a.s) → Abk l a (j + 1) := fun h0 i hi hij => by
     rcases Nat.lt_succ_iff_lt_or_eq.1 hij with h1 | rfl
     ·exact hq i hi h1
     ·exact h0
    (repeat' (first | intro _ | refine And.intro ?_ ?_))
    all_goals first | omega | skip
    ·rename_i g1 g2 g3
     have : ((varsOf (l.take k)).any fun x => decide (a.s = x)) = true := hany.2 ⟨j, hjl, hjk, g2, g3⟩
     rw [Md hlt (by rw [hI, hb, g1, this]; rfl)]
    ·rename_i g1 g2 g3
     exact Ai.le ⟨j + 1, ⟨⟨hjk, hq2 (fun h => g3 h.2.2)⟩, (by first | omega | (simp only; omega))⟩, rfl⟩ (by simp +contextual -dsimp only [↓SD, SU, simprocAttr, Int.natCast_add]) (by simp +contextual -dsimp only [↓SD, SU, simprocAttr, Bw, g1])
    ·rename_i g1 g2
     exact Ai.le ⟨j + 1, ⟨⟨hjk, hq2 (fun h => g2 h.2.1)⟩, (by first | omega | (simp only; omega))⟩, rfl⟩ (by simp +contextual -dsimp only [↓SD, SU, simprocAttr, Int.natCast_add]) (by simp +contextual -dsimp only [↓SD, SU, simprocAttr, Bw, g1])
    ·rename_i g1
     exact Ai.le ⟨j + 1, ⟨⟨hjk, hq2 (fun h => g1 h.1)⟩, (by first | omega | (simp only; omega))⟩, rfl⟩ (by simp +contextual -dsimp only [↓SD, SU, simprocAttr, Int.natCast_add]) (by simp +contextual -dsimp only [↓SD, SU, simprocAttr, Bw])
   ·obtain rfl : j = k := by omega
    have hIk : Hv l j = true := by
     rw [hI, hb, Bool.true_and, Bool.not_eq_true', Bool.and_eq_false_iff]
     by_cases g : a.kind = 2
     ·right
      rw [← Bool.not_eq_true, hany]
      rintro ⟨i, h, hi, g2, g3⟩
      exact hq i h hi ⟨g, g2, g3⟩
     ·left; exact decide_eq_false g
    simp +contextual -dsimp only [↓SD, SU, simprocAttr, Nat.lt_irrefl]
    refine ⟨by omega, Ai.le ⟨j + 1, ⟨⟨hlt, fun i hi => (Nat.lt_succ_iff_lt_or_eq.1 hi).elim (hp i) (fun e => e ▸ hIk)⟩, (by first | omega | (simp only; omega))⟩, rfl⟩ (by simp +contextual -dsimp only [↓SD, SU, simprocAttr, Int.natCast_add]) trivial⟩
 ·obtain rfl : k = l.length := by omega
  have C := UP l hx (l.length + 1) 0 (by omega) (by omega)
  simp +contextual -dsimp only [↓SD, SU, simprocAttr, Aa, Nat.lt_irrefl]
  refine Ac _ C ?_
  simp +contextual -dsimp only [↓SD, SU, simprocAttr, Aa]
  congr 1
  cases ht : Eg (DV l) l.length with
  | true =>
   rw [V9 (by omega) (by omega) ht hp]
   unfold Eg at ht
   rw [of_decide_eq_true ht]; simp [Gy]
  | false =>
   rw [Pb ht]
   unfold Eg at ht
   cases ho : Cl (DV l) l.length (l.length + 1) 0 with
   | none => simp [Gy]
   | some m =>
    rw [ho] at ht
    have hne : m ≠ l.length := fun e => by simp [e] at ht
    exact decide_eq_false (by simp only [Gy]; omega)

end Go.Proofs.YtoffpbehgncakaaGreat
