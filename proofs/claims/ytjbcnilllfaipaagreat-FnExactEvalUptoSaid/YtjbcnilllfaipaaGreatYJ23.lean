/-
  THE ABSTRACT TEXTS OF FUNCTIONS (Prog), printed by irgen.py, and that they are the functions' own. Conditions: none.
-/
import Derived.Test.YtjbcnilllfaipaaGreatProg
import Derived.Test.YtjbcnilllfaipaaGreatYAvDraw
import Derived.Test.YtjbcnilllfaipaaGreatYJ21
set_option linter.unusedVariables false
set_option maxRecDepth 100000
namespace Go.Proofs.YtjbcnilllfaipaaGreat
open Go.Proofs.YtjbcnilllfaipaaGreat.Av

theorem B6 : Tryz.prog.follows .mixedOrders = true := by kernel_rfl

def KP : Ir Tryz.prog 123 [] [] 1 := ⟨_, _, Tryz.func123, B6, by kernel_rfl, Ag [] Tryz.progTables (by conv => lhs; cbv) (by kernel_rfl)⟩
def Dx : Ir Tryz.prog 88 [] [] 3 := ⟨_, _, Tryz.func88, B6, by kernel_rfl, Ag [] Tryz.progTables (by conv => lhs; cbv) (by kernel_rfl)⟩
def EC : Ir Tryz.prog 91 [] [] 1 := ⟨_, _, Tryz.func91, B6, by kernel_rfl, Ag [] Tryz.progTables (by conv => lhs; cbv) (by kernel_rfl)⟩
def Fk : Ir Tryz.prog 49 [] [] 2 := ⟨_, _, Tryz.func49, B6, by kernel_rfl, Ag [] Tryz.progTables (by conv => lhs; cbv) (by kernel_rfl)⟩
def HJ : Ir Tryz.prog 87 [] [] 2 := ⟨_, _, Tryz.func87, B6, by kernel_rfl, Ag [] Tryz.progTables (by conv => lhs; cbv) (by kernel_rfl)⟩
def HI : Ir Tryz.prog 90 [] [] 1 := ⟨_, _, Tryz.func90, B6, by kernel_rfl, Ag [] Tryz.progTables (by conv => lhs; cbv) (by kernel_rfl)⟩
def HL : Ir Tryz.prog 23 [] [] 1 := ⟨_, _, Tryz.func23, B6, by kernel_rfl, Ag [] Tryz.progTables (by conv => lhs; cbv) (by kernel_rfl)⟩
def GG : Ir Tryz.prog 50 [] [] 1 := ⟨_, _, Tryz.func50, B6, by kernel_rfl, Ag [] Tryz.progTables (by conv => lhs; cbv) (by kernel_rfl)⟩
def GF : Ir Tryz.prog 53 [] [] 1 := ⟨_, _, Tryz.func53, B6, by kernel_rfl, Ag [] Tryz.progTables (by conv => lhs; cbv) (by kernel_rfl)⟩
def Jl : Ir Tryz.prog 74 [] [] 1 := ⟨_, _, Tryz.func74, B6, by kernel_rfl, Ag [] Tryz.progTables (by conv => lhs; cbv) (by kernel_rfl)⟩
def AM : Ir Tryz.prog 38 [] [] 2 := ⟨_, _, Tryz.func38, B6, by kernel_rfl, Ag [] Tryz.progTables (by conv => lhs; cbv) (by kernel_rfl)⟩
def Gq : Ir Tryz.prog 39 [] [] 2 := ⟨_, _, Tryz.func39, B6, by kernel_rfl, Ag [] Tryz.progTables (by conv => lhs; cbv) (by kernel_rfl)⟩
def FK : Ir Tryz.prog 37 [] [] 2 := ⟨_, _, Tryz.func37, B6, by kernel_rfl, Ag [] Tryz.progTables (by conv => lhs; cbv) (by kernel_rfl)⟩
def FM : Ir Tryz.prog 18 [] [] 1 := ⟨_, _, Tryz.func18, B6, by kernel_rfl, Ag [] Tryz.progTables (by conv => lhs; cbv) (by kernel_rfl)⟩
end Go.Proofs.YtjbcnilllfaipaaGreat
set_option linter.unusedVariables false
set_option linter.unusedSimpArgs false
set_option maxRecDepth 100000
namespace Go.Proofs.YtjbcnilllfaipaaGreat
open Go.RowKit Go.Proofs.YtjbcnilllfaipaaGreat.Av Go.Proofs.YtjbcnilllfaipaaGreat.Ml
open Go.Proofs.YtjbcnilllfaipaaGreat.Av.AVal (av)

theorem Zw (l : List Bp) (i : Nat) (hi : i < l.length) : Ap Tryz.prog 97 [.int .i64 i, .obj [.sl (l.map av)]] (.sl ((B8 l i).map av)) := by
 have hc : Ac (.obj [.sl (l.map av)]) := Ac.obj (by simp; exact Aq l)
 refine JE.F rfl (by simp; exact ⟨BL _, hc⟩) (Aq _) ?_
 have e := getD_map av l i .top hi
 simp +contextual -dsimp only [↓SD, SU, simprocAttr, JE, Aa, e, A8, hi, B8, Ef hi]

theorem K1 {l : List Bp} (h : ¬ (1 ≤ (l.length : Int) ∧ (l.length : Int) ≤ 600)) : Ft l = false := by
 cases hb : Ft l with
 | false => rfl
 | true => simp only [Ft, Bool.and_eq_true, decide_eq_true_eq] at hb; exact absurd hb.1.1 h
theorem QT {l : List Bp} (h : Fw (B8 l) l.length = false) : Ft l = false := by simp [Ft, h]
theorem NT {l : List Bp} {k : Nat} (h : k < l.length) (hb : Hq l k = false) : Ft l = false := by
 unfold Ft; rw [WY h hb, Bool.and_false]
theorem XL {l : List Bp} (h1 : 1 ≤ l.length) (h2 : l.length ≤ 600) (h3 : Fw (B8 l) l.length = true) (h4 : ∀ k, k < l.length → Hq l k = true) : Ft l = true := by
 simp only [Ft, Bool.and_eq_true, decide_eq_true_eq, PF]
 exact ⟨⟨by omega, h3⟩, h4⟩

theorem Su (l : List Bp) (hx : Ad.bulk l ≤ 1099511627776) : Ap Tryz.prog 54 [.agg [.sl (l.map av)]] (.bool (Ft l)) := by
 have hl := Ao l
 have hc : Ac (.obj [.sl (l.map av)]) := Ac.obj (by simp; exact Aq l)
 refine KQ.F rfl (by simp; exact Ac.agg (by simp; exact Aq l)) (Ac.bool _) ?_
 simp +contextual -dsimp only [↓SD, SU, simprocAttr, KQ, Aa]
 have C1 := Em (l.length : Int) 1 600
 by_cases hsm : 1 ≤ (l.length : Int) ∧ (l.length : Int) ≤ 600
 ·rw [decide_eq_true hsm.1, decide_eq_true hsm.2] at C1
  refine Ab _ C1 ?_
  simp +contextual -dsimp only [↓SD, SU, simprocAttr, Aa]
  have C2 := OY (B8 l) l.length (by omega) 97 [.obj [.sl (l.map av)]] (by simp; exact hc) (by intro hp; rfl) (fun i hi => ⟨by
   have := (Ge hx i hi).1
   rw [B8, Ef hi]; exact this, Zw l i hi⟩)
  cases ht : Fw (B8 l) l.length with
  | false =>
   rw [ht] at C2
   refine Ab _ C2 ?_
   simp +contextual -dsimp only [↓SD, SU, simprocAttr, QT ht]
  | true =>
   rw [ht] at C2
   refine Ab _ C2 ?_
   simp +contextual -dsimp only [↓SD, SU, simprocAttr, Aa]
   intro v
   refine Al (X := Nat × Nat) (fun x => ⟨[(1, .obj [.sl (l.map av)]), (3, .row 19 x.2 (varsOf (l.take x.1)).length), (21, .sl (l.map av)), (22, .int .i64 l.length), (23, .int .i64 x.1)], [(19, ⟨x.2, false, 9, 1, (varsOf (l.take x.1)).map av⟩)]⟩) (fun x => x.1 ≤ l.length ∧ ∀ i, i < x.1 → Hq l i = true) (fun x => l.length - x.1) (0, v) ⟨Nat.zero_le _, fun i h => by omega⟩ (by simp +contextual -dsimp only [↓SD, SU, simprocAttr, varsOf, List.filterMap_nil]) (by simp +contextual -dsimp only [↓SD, SU, simprocAttr, varsOf, List.filterMap_nil]) ?_
   rintro ⟨k, u⟩ ⟨hk, hp⟩
   simp only at hk hp
   by_cases hlt : k < l.length
   ·have e := getD_map av l k .top hlt
    obtain ⟨s1, s2⟩ := Ge hx k hlt
    have hin : l[k].kids.length = 1 → 0 ≤ l[k].kids.getD 0 0 ∧ l[k].kids.getD 0 0 < l.length := fun h1 => by
     have := GJ ht hlt (k := l[k].kids.getD 0 0) (by
      simp only [B8, Ef hlt]
      rw [Ef (by omega)]
      exact List.getElem_mem _)
     omega
    have C3 := Sd l l[k] (by omega) (by omega) (by omega) hin
    have C4 := Hj (varsOf (l.take k)) l[k].s (by have := N1 (l.take k); simp at this; omega)
    have hI : Hq l k = (Ec l l[k] && !(decide (l[k].kind = 2) && (varsOf (l.take k)).any fun x => decide (l[k].s = x))) := by simp only [Hq, Ef hlt]
    have hv := S3 hlt
    have hvl := N1 (l.take k)
    rw [List.length_take] at hvl
    generalize l[k] = a at *
    rw [A8] at C3
    simp +contextual -dsimp only [↓SD, SU, simprocAttr, Aa, hlt, e, A8]
    intro w
    cases hb : Ec l a with
    | false =>
     rw [hb] at C3
     refine Ab _ C3 ?_
     simp +contextual -dsimp only [↓SD, SU, simprocAttr]
     rw [NT hlt (by rw [hI, hb]; rfl)]
    | true =>
     rw [hb] at C3
     refine Ab _ C3 ?_
     simp +contextual -dsimp only [↓SD, SU, simprocAttr]
     refine ⟨fun hk2 => ?_, fun hk2 => ?_⟩
     ·refine FE [19] C4 rfl (by simp +contextual -dsimp only [↓SD, SU, simprocAttr, AA, List.take_length, List.length_map]; simp [List.take_of_length_le]) ?_
      simp +contextual -dsimp only [↓SD, SU, simprocAttr, hk2, Aa]
      refine ⟨fun hc => ?_, fun hc => ?_⟩
      ·rw [NT hlt (by rw [hI, hb, hk2, hc]; rfl)]
      ·have hIk : Hq l k = true := by rw [hI, hb, hk2, hc]; rfl
       rw [if_pos hk2] at hv
       (repeat' (first | intro _ | refine And.intro ?_ ?_))
       all_goals first | omega | (unfold maxLen; omega) | skip
       rename_i u'
       exact Af.le ⟨(k + 1, u'), ⟨⟨hlt, fun i hi => (Nat.lt_succ_iff_lt_or_eq.1 hi).elim (hp i) (fun e => e ▸ hIk)⟩, (by first | omega | (simp only; omega))⟩, rfl⟩ (by simp +contextual -dsimp only [↓SD, SU, simprocAttr, Int.natCast_add, hv, List.length_append]) (by simp +contextual -dsimp only [↓SD, SU, simprocAttr, hv, AA, H9, List.map_append, B7])
     ·have hIk : Hq l k = true := by rw [hI, hb, decide_eq_false hk2]; rfl
      rw [if_neg hk2, List.append_nil] at hv
      refine ⟨by omega, Af.le ⟨(k + 1, u), ⟨⟨hlt, fun i hi => (Nat.lt_succ_iff_lt_or_eq.1 hi).elim (hp i) (fun e => e ▸ hIk)⟩, (by first | omega | (simp only; omega))⟩, rfl⟩ (by simp +contextual -dsimp only [↓SD, SU, simprocAttr, Int.natCast_add, hv]) (by simp +contextual -dsimp only [↓SD, SU, simprocAttr, hv])⟩
   ·obtain rfl : k = l.length := by omega
    simp +contextual -dsimp only [↓SD, SU, simprocAttr, Aa, Nat.lt_irrefl]
    rw [XL (by omega) (by omega) ht hp]
 ·have hf : (decide (1 ≤ (l.length : Int)) && decide ((l.length : Int) ≤ 600)) = false := by
   rw [Bool.and_eq_false_iff, decide_eq_false_iff_not, decide_eq_false_iff_not]; omega
  rw [hf] at C1
  refine Ab _ C1 ?_
  simp +contextual -dsimp only [↓SD, SU, simprocAttr, K1 hsm]

def HW (o : Option Nat) : Int := match o with | some m => (m : Int) | none => -1
theorem Wu (l : List Bp) (hx : Ad.bulk l ≤ 1099511627776) : ∀ (f i : Nat), l.length - i < f → i ≤ 1099511627776 → Ap Tryz.prog 117 [.agg [.sl (l.map av)], .int .i64 i] (.int .i64 (HW (DV (B8 l) l.length f i))) := by
 have hl := Ao l
 intro f
 induction f with
 | zero => intro i h; omega
 | succ f ih =>
  intro i hf hi0
  refine Gp.F rfl (by simp; exact ⟨Ac.agg (by simp; exact Aq l), BL _⟩) (BL _) ?_
  by_cases hi : i < l.length
  ·have e := getD_map av l i .top hi
   have hs := (Ge hx i hi).1
   have hK : B8 l i = l[i].kids := by rw [B8, Ef hi]
   have hE : DV (B8 l) l.length (f + 1) i = D0 (DV (B8 l) l.length f) l[i].kids (i + 1) := by rw [DV, if_pos hi, hK]
   rw [hE]
   generalize l[i] = a at *
   simp +contextual -dsimp only [↓SD, SU, simprocAttr, Gp, Aa, hi, e, A8, Nat.not_le]
   refine ⟨by omega, by omega, ?_⟩
   refine Al (X := Nat × Nat) (fun x => ⟨[(2, .obj [.sl (l.map av)]), (5, .int .i64 x.2), (20, .sl (a.kids.map av)), (21, .int .i64 a.kids.length), (22, .int .i64 x.1)], []⟩) (fun x => x.1 ≤ a.kids.length ∧ i < x.2 ∧ x.2 ≤ l.length ∧ D0 (DV (B8 l) l.length f) a.kids (i + 1) = D0 (DV (B8 l) l.length f) (a.kids.drop x.1) x.2) (fun x => a.kids.length - x.1) (0, i + 1) ⟨Nat.zero_le _, by simp, by simp only; omega, rfl⟩ (by simp +contextual -dsimp only [↓SD, SU, simprocAttr, Int.natCast_add]) trivial ?_
   rintro ⟨j, m⟩ ⟨hj, hm1, hm2, he⟩
   simp only at hj hm1 hm2 he
   by_cases hlt : j < a.kids.length
   ·have e2 := getD_map av a.kids j .top hlt
    rw [List.drop_eq_getElem_cons hlt, D0] at he
    have C := ih m (by omega) (by omega)
    by_cases hkm : a.kids[j] = (m : Int)
    ·rw [if_pos hkm] at he
     simp +contextual -dsimp only [↓SD, SU, simprocAttr, Aa, hlt, e2, Bo, hkm]
     refine Ab _ C ?_
     cases hm' : DV (B8 l) l.length f m with
     | none =>
      rw [hm'] at he
      simp +contextual -dsimp only [↓SD, SU, simprocAttr, HW]
      rw [he]
     | some m' =>
      rw [hm'] at he
      have := MW (B8 l) l.length f m m' hm'
      have hneg : ¬ ((m' : Int) < 0) := by omega
      simp +contextual -dsimp only [↓SD, SU, simprocAttr, HW, hneg]
      refine ⟨by omega, Af.le ⟨(j + 1, m'), ⟨⟨hlt, by simp only; omega, this.2, he⟩, (by first | omega | (simp only; omega))⟩, rfl⟩ (by simp +contextual -dsimp only [↓SD, SU, simprocAttr, Int.natCast_add]) trivial⟩
    ·rw [if_neg hkm] at he
     simp +contextual -dsimp only [↓SD, SU, simprocAttr, Aa, hlt, e2, Bo, hkm]
     rw [he]; rfl
   ·obtain rfl : j = a.kids.length := by omega
    rw [List.drop_length, D0] at he
    simp +contextual -dsimp only [↓SD, SU, simprocAttr, Aa, Nat.lt_irrefl]
    rw [he]; rfl
  ·have hE : DV (B8 l) l.length (f + 1) i = none := by rw [DV, if_neg hi]
   have hi' : l.length ≤ i := by omega
   simp +contextual -dsimp only [↓SD, SU, simprocAttr, Gp, Aa, hi', hE]
   rfl

end Go.Proofs.YtjbcnilllfaipaaGreat
set_option linter.unusedVariables false
set_option linter.unusedSimpArgs false
set_option maxRecDepth 100000
namespace Go.Proofs.YtjbcnilllfaipaaGreat
open Go.RowKit Go.Proofs.YtjbcnilllfaipaaGreat.Av Go.Proofs.YtjbcnilllfaipaaGreat.Ml
open Go.Proofs.YtjbcnilllfaipaaGreat.Av.AVal (av)

theorem VX {l : List Bp} {i : Nat} (hi : i ≤ l.length) (s : ByteArray) : ((varsOf (l.take i)).any fun x => decide (s = x)) = true ↔ ∃ j, ∃ h : j < l.length, j < i ∧ l[j].kind = 2 ∧ l[j].s = s := by
 rw [List.any_eq_true]
 simp only [varsOf, List.mem_filterMap, decide_eq_true_eq]
 constructor
 ·rintro ⟨x, ⟨n, hn, hx⟩, rfl⟩
  obtain ⟨j, hj, rfl⟩ := List.mem_take_iff_getElem.1 hn
  split at hx
  ·rename_i hk
   exact ⟨j, by omega, by omega, hk, by simpa using hx⟩
  ·cases hx
 ·rintro ⟨j, hj, hji, hk, rfl⟩
  exact ⟨_, ⟨l[j], List.mem_take_iff_getElem.2 ⟨j, by omega, rfl⟩, by simp [hk]⟩, rfl⟩

def Ade (l : List Bp) (a : Bp) (j : Nat) : Prop := ∀ i, ∀ h : i < l.length, i < j → ¬ (a.kind = 2 ∧ l[i].kind = 2 ∧ l[i].s = a.s)
theorem R4 (l : List Bp) (hx : Ad.bulk l ≤ 1099511627776) : Ap Tryz.prog 73 [.agg [.sl (l.map av)]] (.bool (Ft l)) := by
 have hl := Ao l
 refine KJ.F rfl (by simp; exact Ac.agg (by simp; exact Aq l)) (Ac.bool _) ?_
 simp +contextual -dsimp only [↓SD, SU, simprocAttr, KJ, Aa]
 refine ⟨fun h1 => ⟨fun h2 => by rw [K1 (by omega)], fun h2 => ?_⟩, fun h1 => by rw [K1 (by omega)]⟩
 refine Al (X := Nat) (fun k => ⟨[(1, .obj [.sl (l.map av)]), (17, .sl (l.map av)), (18, .int .i64 l.length), (19, .int .i64 k)], []⟩) (fun k => k ≤ l.length ∧ ∀ i, i < k → Hq l i = true) (fun k => l.length - k) 0 ⟨Nat.zero_le _, fun i h => by omega⟩ (by simp +contextual -dsimp only [↓SD, SU, simprocAttr]) trivial ?_
 intro k ⟨hk, hp⟩
 by_cases hlt : k < l.length
 ·have e := getD_map av l k .top hlt
  obtain ⟨s1, s2⟩ := Ge hx k hlt
  have C3 := Um l l[k] (by omega) (by omega) (by omega)
  have hI : Hq l k = (Ec l l[k] && !(decide (l[k].kind = 2) && (varsOf (l.take k)).any fun x => decide (l[k].s = x))) := by simp only [Hq, Ef hlt]
  have hany := VX (l := l) (i := k) (by omega) l[k].s
  generalize l[k] = a at *
  rw [A8] at C3
  simp +contextual -dsimp only [↓SD, SU, simprocAttr, Aa, hlt, e, A8]
  intro w
  cases hb : Ec l a with
  | false =>
   rw [hb] at C3
   refine Ab _ C3 ?_
   simp +contextual -dsimp only [↓SD, SU, simprocAttr]
   rw [NT hlt (by rw [hI, hb]; rfl)]
  | true =>
   rw [hb] at C3
   refine Ab _ C3 ?_
   simp +contextual -dsimp only [↓SD, SU, simprocAttr]
   refine Al (X := Nat) (fun j => ⟨[(1, .obj [.sl (l.map av)]), (3, .int .i64 k), (4, .ptr 4 w 0 0), (5, .int .i64 j), (17, .sl (l.map av)), (18, .int .i64 l.length), (19, .int .i64 k)], [(4, ⟨w, false, 162, 4, [av a]⟩)]⟩) (fun j => j ≤ k ∧ Ade l a j) (fun j => k - j) 0 ⟨Nat.zero_le _, fun i _ h => by omega⟩ (by simp +contextual -dsimp only [↓SD, SU, simprocAttr]) (by simp +contextual -dsimp only [↓SD, SU, simprocAttr, A8]) ?_
   intro j ⟨hj, hq⟩
   by_cases hjk : j < k
   ·have hjl : j < l.length := by omega
    have e2 := getD_map av l j .top hjl
    simp +contextual -dsimp only [↓SD, SU, simprocAttr, Aa, hjk, hjl, e2, A8]
    have hq2 : ¬ (a.kind = 2 ∧ l[j].kind = 2 ∧ l[j].s = a.s) → Ade l a (j + 1) := fun h0 i hi hij => by
     rcases Nat.lt_succ_iff_lt_or_eq.1 hij with h1 | rfl
     ·exact hq i hi h1
     ·exact h0
    (repeat' (first | intro _ | refine And.intro ?_ ?_))
    all_goals first | omega | skip
    ·rename_i g1 g2 g3
     have : ((varsOf (l.take k)).any fun x => decide (a.s = x)) = true := hany.2 ⟨j, hjl, hjk, g2, g3⟩
     rw [NT hlt (by rw [hI, hb, g1, this]; rfl)]
    ·rename_i g1 g2 g3
     exact Af.le ⟨j + 1, ⟨⟨hjk, hq2 (fun h => g3 h.2.2)⟩, (by first | omega | (simp only; omega))⟩, rfl⟩ (by simp +contextual -dsimp only [↓SD, SU, simprocAttr, Int.natCast_add]) (by simp +contextual -dsimp only [↓SD, SU, simprocAttr, A8, g1])
    ·rename_i g1 g2
     exact Af.le ⟨j + 1, ⟨⟨hjk, hq2 (fun h => g2 h.2.1)⟩, (by first | omega | (simp only; omega))⟩, rfl⟩ (by simp +contextual -dsimp only [↓SD, SU, simprocAttr, Int.natCast_add]) (by simp +contextual -dsimp only [↓SD, SU, simprocAttr, A8, g1])
    ·rename_i g1
     exact Af.le ⟨j + 1, ⟨⟨hjk, hq2 (fun h => g1 h.1)⟩, (by first | omega | (simp only; omega))⟩, rfl⟩ (by simp +contextual -dsimp only [↓SD, SU, simprocAttr, Int.natCast_add]) (by simp +contextual -dsimp only [↓SD, SU, simprocAttr, A8])
   ·obtain rfl : j = k := by omega
    have hIk : Hq l j = true := by
     rw [hI, hb, Bool.true_and, Bool.not_eq_true', Bool.and_eq_false_iff]
     by_cases g : a.kind = 2
     ·right
      rw [← Bool.not_eq_true, hany]
      rintro ⟨i, h, hi, g2, g3⟩
      exact hq i h hi ⟨g, g2, g3⟩
     ·left; exact decide_eq_false g
    simp +contextual -dsimp only [↓SD, SU, simprocAttr, Nat.lt_irrefl]
    refine ⟨by omega, Af.le ⟨j + 1, ⟨⟨hlt, fun i hi => (Nat.lt_succ_iff_lt_or_eq.1 hi).elim (hp i) (fun e => e ▸ hIk)⟩, (by first | omega | (simp only; omega))⟩, rfl⟩ (by simp +contextual -dsimp only [↓SD, SU, simprocAttr, Int.natCast_add]) trivial⟩
 ·obtain rfl : k = l.length := by omega
  have C := Wu l hx (l.length + 1) 0 (by omega) (by omega)
  simp +contextual -dsimp only [↓SD, SU, simprocAttr, Aa, Nat.lt_irrefl]
  refine Ab _ C ?_
  simp +contextual -dsimp only [↓SD, SU, simprocAttr, Aa]
  congr 1
  cases ht : Fw (B8 l) l.length with
  | true =>
   rw [XL (by omega) (by omega) ht hp]
   unfold Fw at ht
   rw [of_decide_eq_true ht]; simp [HW]
  | false =>
   rw [QT ht]
   unfold Fw at ht
   cases ho : DV (B8 l) l.length (l.length + 1) 0 with
   | none => simp [HW]
   | some m =>
    rw [ho] at ht
    have hne : m ≠ l.length := fun e => by simp [e] at ht
    exact decide_eq_false (by simp only [HW]; omega)

end Go.Proofs.YtjbcnilllfaipaaGreat
set_option linter.unusedVariables false
set_option maxRecDepth 100000
namespace Go.Proofs.YtjbcnilllfaipaaGreat
open Go.Proofs.YtjbcnilllfaipaaGreat.Av

theorem F7 : Tryz.prog.follows .mixedOrders = true := by kernel_rfl

def L2 : Ir Tryz.prog 144 [] [] 1 := ⟨_, _, Tryz.func144, F7, by kernel_rfl, Ag [] Tryz.progTables (by conv => lhs; cbv) (by kernel_rfl)⟩
def Kf : Ir Tryz.prog 160 [] [] 1 := ⟨_, _, Tryz.func160, F7, by kernel_rfl, Ag [] Tryz.progTables (by conv => lhs; cbv) (by kernel_rfl)⟩
def I3 : Ir Tryz.prog 128 [] [] 1 := ⟨_, _, Tryz.func128, F7, by kernel_rfl, Ag [] Tryz.progTables (by conv => lhs; cbv) (by kernel_rfl)⟩
def Fi : Ir Tryz.prog 114 [] [] 1 := ⟨_, _, Tryz.func114, F7, by kernel_rfl, Ag [] Tryz.progTables (by conv => lhs; cbv) (by kernel_rfl)⟩
def G7 : Ir Tryz.prog 115 [] [] 2 := ⟨_, _, Tryz.func115, F7, by kernel_rfl, Ag [] Tryz.progTables (by conv => lhs; cbv) (by kernel_rfl)⟩
def LU : Ir Tryz.prog 70 [] [] 1 := ⟨_, _, Tryz.func70, F7, by kernel_rfl, Ag [] Tryz.progTables (by conv => lhs; cbv) (by kernel_rfl)⟩
end Go.Proofs.YtjbcnilllfaipaaGreat
