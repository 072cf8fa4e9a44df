/-
 PatOk OF THE PROGRAM AND OF THE REFERENCE, by abstract texts. Conditions: none.
-/
import Derived.Test.YtppjinmlfcokaaaGreatVJ13
import Derived.Test.YtppjinmlfcokaaaGreatProg
import Derived.Test.YtppjinmlfcokaaaGreatVAvDraw
set_option linter.unusedVariables false
set_option linter.unusedSimpArgs false
set_option maxRecDepth 100000
namespace Go.Proofs.YtppjinmlfcokaaaGreat
open Go.RowKit Go.Proofs.YtppjinmlfcokaaaGreat.Av Go.Proofs.YtppjinmlfcokaaaGreat.Ml
open Go.Proofs.YtppjinmlfcokaaaGreat.Av.AVal (av)

theorem Aby (l : List Bg) (i : Nat) (hi : i < l.length) : Ah Tryz.prog 104 [.int .i64 i, .obj [.sl (l.map av)]] (.sl ((B2 l i).map av)) := by
 have hc : Ad (.obj [.sl (l.map av)]) := Ad.obj (by simp; exact Ak l)
 refine JY.F rfl (by simp; exact ⟨BB _, hc⟩) (Ak _) ?_
 have e := getD_map av l i .top hi
 simp +contextual -dsimp only [↓SD, SU, simprocAttr, JY, Ab, e, AU, hi, B2, Ey hi]

theorem LI {l : List Bg} (h : ¬ (1 ≤ (l.length : Int) ∧ (l.length : Int) ≤ 600)) : Et l = false := by
 cases hb : Et l with
 | false => rfl
 | true => simp only [Et, Bool.and_eq_true, decide_eq_true_eq] at hb; exact absurd hb.1.1 h
theorem RY {l : List Bg} (h : Fh (B2 l) l.length = false) : Et l = false := by simp [Et, h]
theorem OL {l : List Bg} {k : Nat} (h : k < l.length) (hb : GN l k = false) : Et l = false := by
 unfold Et; rw [YO h hb, Bool.and_false]
theorem ZH {l : List Bg} (h1 : 1 ≤ l.length) (h2 : l.length ≤ 600) (h3 : Fh (B2 l) l.length = true) (h4 : ∀ k, k < l.length → GN l k = true) : Et l = true := by
 simp only [Et, Bool.and_eq_true, decide_eq_true_eq, M9]
 exact ⟨⟨by omega, h3⟩, h4⟩

theorem TL (l : List Bg) (hx : Ac.bulk l ≤ 4294967296) : Ah Tryz.prog 52 [.agg [.sl (l.map av)]] (.bool (Et l)) := by
 have hl := Ai l
 have hc : Ad (.obj [.sl (l.map av)]) := Ad.obj (by simp; exact Ak l)
 refine Ls.F rfl (by simp; exact Ad.agg (by simp; exact Ak l)) (Ad.bool _) ?_
 simp +contextual -dsimp only [↓SD, SU, simprocAttr, Ls, Ab]
 have C1 := EP (l.length : Int) 1 600
 by_cases hsm : 1 ≤ (l.length : Int) ∧ (l.length : Int) ≤ 600
 ·rw [decide_eq_true hsm.1, decide_eq_true hsm.2] at C1
  refine Aa _ C1 ?_
  simp +contextual -dsimp only [↓SD, SU, simprocAttr, Ab]
  have C2 := P9 (B2 l) l.length (by omega) 104 [.obj [.sl (l.map av)]] (by simp; exact hc) (by intro hp; rfl) (fun i hi => ⟨by
   have := (H6 hx i hi).1
   rw [B2, Ey hi]; exact this, Aby l i hi⟩)
  cases ht : Fh (B2 l) l.length with
  | false =>
   rw [ht] at C2
   refine Aa _ C2 ?_
   simp +contextual -dsimp only [↓SD, SU, simprocAttr, RY ht]
  | true =>
   rw [ht] at C2
   refine Aa _ C2 ?_
   simp +contextual -dsimp only [↓SD, SU, simprocAttr, Ab]
   intro v
   refine Am (X := Nat × Nat) (fun x => ⟨[(1, .obj [.sl (l.map av)]), (3, .row 19 x.2 (varsOf (l.take x.1)).length), (21, .sl (l.map av)), (22, .int .i64 l.length), (23, .int .i64 x.1)], [(19, ⟨x.2, false, 9, 1, (varsOf (l.take x.1)).map av⟩)]⟩) (fun x => x.1 ≤ l.length ∧ ∀ i, i < x.1 → GN l i = true) (fun x => l.length - x.1) (0, v) ⟨Nat.zero_le _, fun i h => by omega⟩ (by simp +contextual -dsimp only [↓SD, SU, simprocAttr, varsOf, List.filterMap_nil]) (by simp +contextual -dsimp only [↓SD, SU, simprocAttr, varsOf, List.filterMap_nil]) ?_
   rintro ⟨k, u⟩ ⟨hk, hp⟩
   simp only at hk hp
   by_cases hlt : k < l.length
   ·have e := getD_map av l k .top hlt
    obtain ⟨s1, s2⟩ := H6 hx k hlt
    have hin : l[k].kids.length = 1 → 0 ≤ l[k].kids.getD 0 0 ∧ l[k].kids.getD 0 0 < l.length := fun h1 => by
     have := Ef ht hlt (k := l[k].kids.getD 0 0) (by
      simp only [B2, Ey hlt]
      rw [Ey (by omega)]
      exact List.getElem_mem _)
     omega
    have C3 := Tu l l[k] (by omega) (by omega) (by omega) hin
    have C4 := Gd (varsOf (l.take k)) l[k].s (by have := Jd (l.take k); simp at this; omega)
    have hI : GN l k = (Er l l[k] && !(decide (l[k].kind = 2) && (varsOf (l.take k)).any fun x => decide (l[k].s = x))) := by simp only [GN, Ey hlt]
    have hv := Ka hlt
    have hvl := Jd (l.take k)
    rw [List.length_take] at hvl
    generalize l[k] = a at *
    rw [AU] at C3
    simp +contextual -dsimp only [↓SD, SU, simprocAttr, Ab, hlt, e, AU]
    intro w
    cases hb : Er l a with
    | false =>
     rw [hb] at C3
     refine Aa _ C3 ?_
     simp +contextual -dsimp only [↓SD, SU, simprocAttr]
     rw [OL hlt (by rw [hI, hb]; rfl)]
    | true =>
     rw [hb] at C3
     refine Aa _ C3 ?_
     simp +contextual -dsimp only [↓SD, SU, simprocAttr]
     refine ⟨fun hk2 => ?_, fun hk2 => ?_⟩
     ·refine Dz [19] C4 rfl (by simp +contextual -dsimp only [↓SD, SU, simprocAttr, AB, List.take_length, List.length_map]; simp [List.take_of_length_le]) ?_
      simp +contextual -dsimp only [↓SD, SU, simprocAttr, hk2, Ab]
      refine ⟨fun hc => ?_, fun hc => ?_⟩
      ·rw [OL hlt (by rw [hI, hb, hk2, hc]; rfl)]
      ·have hIk : GN l k = true := by rw [hI, hb, hk2, hc]; rfl
       rw [if_pos hk2] at hv
       (repeat' (first | intro _ | refine And.intro ?_ ?_))
       all_goals first | omega | (unfold maxLen; omega) | skip
       rename_i u'
       exact Af.le ⟨(k + 1, u'), ⟨⟨hlt, fun i hi => (Nat.lt_succ_iff_lt_or_eq.1 hi).elim (hp i) (fun e => e ▸ hIk)⟩, (by first | omega | (simp only; omega))⟩, rfl⟩ (by simp +contextual -dsimp only [↓SD, SU, simprocAttr, Int.natCast_add, hv, List.length_append]) (by simp +contextual -dsimp only [↓SD, SU, simprocAttr, hv, AB, IG, List.map_append, Ce])
     ·have hIk : GN l k = true := by rw [hI, hb, decide_eq_false hk2]; rfl
      rw [if_neg hk2, List.append_nil] at hv
      refine ⟨by omega, Af.le ⟨(k + 1, u), ⟨⟨hlt, fun i hi => (Nat.lt_succ_iff_lt_or_eq.1 hi).elim (hp i) (fun e => e ▸ hIk)⟩, (by first | omega | (simp only; omega))⟩, rfl⟩ (by simp +contextual -dsimp only [↓SD, SU, simprocAttr, Int.natCast_add, hv]) (by simp +contextual -dsimp only [↓SD, SU, simprocAttr, hv])⟩
   ·obtain rfl : k = l.length := by omega
    simp +contextual -dsimp only [↓SD, SU, simprocAttr, Ab, Nat.lt_irrefl]
    rw [ZH (by omega) (by omega) ht hp]
 ·have hf : (decide (1 ≤ (l.length : Int)) && decide ((l.length : Int) ≤ 600)) = false := by
   rw [Bool.and_eq_false_iff, decide_eq_false_iff_not, decide_eq_false_iff_not]; omega
  rw [hf] at C1
  refine Aa _ C1 ?_
  simp +contextual -dsimp only [↓SD, SU, simprocAttr, LI hsm]

def Hn (o : Option Nat) : Int := match o with | some m => (m : Int) | none => -1
theorem Yj (l : List Bg) (hx : Ac.bulk l ≤ 4294967296) : ∀ (f i : Nat), l.length - i < f → i ≤ 4294967296 → Ah Tryz.prog 171 [.agg [.sl (l.map av)], .int .i64 i] (.int .i64 (Hn (B9 (B2 l) l.length f i))) := by
 have hl := Ai l
 intro f
 induction f with
 | zero => intro i h; omega
 | succ f ih =>
  intro i hf hi0
  refine GZ.F rfl (by simp; exact ⟨Ad.agg (by simp; exact Ak l), BB _⟩) (BB _) ?_
  by_cases hi : i < l.length
  ·have e := getD_map av l i .top hi
   have hs := (H6 hx i hi).1
   have hK : B2 l i = l[i].kids := by rw [B2, Ey hi]
   have hE : B9 (B2 l) l.length (f + 1) i = BR (B9 (B2 l) l.length f) l[i].kids (i + 1) := by rw [B9, if_pos hi, hK]
   rw [hE]
   generalize l[i] = a at *
   simp +contextual -dsimp only [↓SD, SU, simprocAttr, GZ, Ab, hi, e, AU, Nat.not_le]
   refine ⟨by omega, by omega, ?_⟩
   refine Am (X := Nat × Nat) (fun x => ⟨[(2, .obj [.sl (l.map av)]), (5, .int .i64 x.2), (20, .sl (a.kids.map av)), (21, .int .i64 a.kids.length), (22, .int .i64 x.1)], []⟩) (fun x => x.1 ≤ a.kids.length ∧ i < x.2 ∧ x.2 ≤ l.length ∧ BR (B9 (B2 l) l.length f) a.kids (i + 1) = BR (B9 (B2 l) l.length f) (a.kids.drop x.1) x.2) (fun x => a.kids.length - x.1) (0, i + 1) ⟨Nat.zero_le _, by simp, by simp only; omega, rfl⟩ (by simp +contextual -dsimp only [↓SD, SU, simprocAttr, Int.natCast_add]) trivial ?_
   rintro ⟨j, m⟩ ⟨hj, hm1, hm2, he⟩
   simp only at hj hm1 hm2 he
   by_cases hlt : j < a.kids.length
   ·have e2 := getD_map av a.kids j .top hlt
    rw [List.drop_eq_getElem_cons hlt, BR] at he
    have C := ih m (by omega) (by omega)
    by_cases hkm : a.kids[j] = (m : Int)
    ·rw [if_pos hkm] at he
     simp +contextual -dsimp only [↓SD, SU, simprocAttr, Ab, hlt, e2, AA, hkm]
     refine Aa _ C ?_
     cases hm' : B9 (B2 l) l.length f m with
     | none =>
      rw [hm'] at he
      simp +contextual -dsimp only [↓SD, SU, simprocAttr, Hn]
      rw [he]
     | some m' =>
      rw [hm'] at he
      have := HS (B2 l) l.length f m m' hm'
      have hneg : ¬ ((m' : Int) < 0) := by omega
      simp +contextual -dsimp only [↓SD, SU, simprocAttr, Hn, hneg]
      refine ⟨by omega, Af.le ⟨(j + 1, m'), ⟨⟨hlt, by simp only; omega, this.2, he⟩, (by first | omega | (simp only; omega))⟩, rfl⟩ (by simp +contextual -dsimp only [↓SD, SU, simprocAttr, Int.natCast_add]) trivial⟩
    ·rw [if_neg hkm] at he
     simp +contextual -dsimp only [↓SD, SU, simprocAttr, Ab, hlt, e2, AA, hkm]
     rw [he]; rfl
   ·obtain rfl : j = a.kids.length := by omega
    rw [List.drop_length, BR] at he
    simp +contextual -dsimp only [↓SD, SU, simprocAttr, Ab, Nat.lt_irrefl]
    rw [he]; rfl
  ·have hE : B9 (B2 l) l.length (f + 1) i = none := by rw [B9, if_neg hi]
   have hi' : l.length ≤ i := by omega
   simp +contextual -dsimp only [↓SD, SU, simprocAttr, GZ, Ab, hi', hE]
   rfl

end Go.Proofs.YtppjinmlfcokaaaGreat
set_option linter.unusedVariables false
set_option linter.unusedSimpArgs false
set_option maxRecDepth 100000
namespace Go.Proofs.YtppjinmlfcokaaaGreat
open Go.RowKit Go.Proofs.YtppjinmlfcokaaaGreat.Av Go.Proofs.YtppjinmlfcokaaaGreat.Ml
open Go.Proofs.YtppjinmlfcokaaaGreat.Av.AVal (av)

theorem Xz {l : List Bg} {i : Nat} (hi : i ≤ l.length) (s : ByteArray) : ((varsOf (l.take i)).any fun x => decide (s = x)) = true ↔ ∃ j, ∃ h : j < l.length, j < i ∧ l[j].kind = 2 ∧ l[j].s = s := by
 rw [List.any_eq_true]
 simp only [varsOf, List.mem_filterMap, decide_eq_true_eq]
 constructor
 ·rintro ⟨x, ⟨n, hn, hx⟩, rfl⟩
  obtain ⟨j, hj, rfl⟩ := List.mem_take_iff_getElem.1 hn
  split at hx
  ·rename_i hk
   exact ⟨j, by omega, by omega, hk, by simpa using hx⟩
  ·cases hx
 ·rintro ⟨j, hj, hji, hk, rfl⟩
  exact ⟨_, ⟨l[j], List.mem_take_iff_getElem.2 ⟨j, by omega, rfl⟩, by simp [hk]⟩, rfl⟩

def Afk (l : List Bg) (a : Bg) (j : Nat) : Prop := ∀ i, ∀ h : i < l.length, i < j → ¬ (a.kind = 2 ∧ l[i].kind = 2 ∧ l[i].s = a.s)
theorem Tn (l : List Bg) (hx : Ac.bulk l ≤ 4294967296) : Ah Tryz.prog 131 [.agg [.sl (l.map av)]] (.bool (Et l)) := by
 have hl := Ai l
 refine Lk.F rfl (by simp; exact Ad.agg (by simp; exact Ak l)) (Ad.bool _) ?_
 simp +contextual -dsimp only [↓SD, SU, simprocAttr, Lk, Ab]
 refine ⟨fun h1 => ⟨fun h2 => by rw [LI (by omega)], fun h2 => ?_⟩, fun h1 => by rw [LI (by omega)]⟩
 refine Am (X := Nat) (fun k => ⟨[(1, .obj [.sl (l.map av)]), (17, .sl (l.map av)), (18, .int .i64 l.length), (19, .int .i64 k)], []⟩) (fun k => k ≤ l.length ∧ ∀ i, i < k → GN l i = true) (fun k => l.length - k) 0 ⟨Nat.zero_le _, fun i h => by omega⟩ (by simp +contextual -dsimp only [↓SD, SU, simprocAttr]) trivial ?_
 intro k ⟨hk, hp⟩
 by_cases hlt : k < l.length
 ·have e := getD_map av l k .top hlt
  obtain ⟨s1, s2⟩ := H6 hx k hlt
  have C3 := VV l l[k] (by omega) (by omega) (by omega)
  have hI : GN l k = (Er l l[k] && !(decide (l[k].kind = 2) && (varsOf (l.take k)).any fun x => decide (l[k].s = x))) := by simp only [GN, Ey hlt]
  have hany := Xz (l := l) (i := k) (by omega) l[k].s
  generalize l[k] = a at *
  rw [AU] at C3
  simp +contextual -dsimp only [↓SD, SU, simprocAttr, Ab, hlt, e, AU]
  intro w
  cases hb : Er l a with
  | false =>
   rw [hb] at C3
   refine Aa _ C3 ?_
   simp +contextual -dsimp only [↓SD, SU, simprocAttr]
   rw [OL hlt (by rw [hI, hb]; rfl)]
  | true =>
   rw [hb] at C3
   refine Aa _ C3 ?_
   simp +contextual -dsimp only [↓SD, SU, simprocAttr]
   refine Am (X := Nat) (fun j => ⟨[(1, .obj [.sl (l.map av)]), (3, .int .i64 k), (4, .ptr 4 w 0 0), (5, .int .i64 j), (17, .sl (l.map av)), (18, .int .i64 l.length), (19, .int .i64 k)], [(4, ⟨w, false, 96, 4, [av a]⟩)]⟩) (fun j => j ≤ k ∧ Afk l a j) (fun j => k - j) 0 ⟨Nat.zero_le _, fun i _ h => by omega⟩ (by simp +contextual -dsimp only [↓SD, SU, simprocAttr]) (by simp +contextual -dsimp only [↓SD, SU, simprocAttr, AU]) ?_
   intro j ⟨hj, hq⟩
   by_cases hjk : j < k
   ·have hjl : j < l.length := by omega
    have e2 := getD_map av l j .top hjl
    simp +contextual -dsimp only [↓SD, SU, simprocAttr, Ab, hjk, hjl, e2, AU]
    have hq2 : ¬ (a.kind = 2 ∧ l[j].kind = 2 ∧ l[j].s = a.s) → Afk l a (j + 1) := fun h0 i hi hij => by
     rcases Nat.lt_succ_iff_lt_or_eq.1 hij with h1 | rfl
     ·exact hq i hi h1
     ·exact h0
    (repeat' (first | intro _ | refine And.intro ?_ ?_))
    all_goals first | omega | skip
    ·rename_i g1 g2 g3
     have : ((varsOf (l.take k)).any fun x => decide (a.s = x)) = true := hany.2 ⟨j, hjl, hjk, g2, g3⟩
     rw [OL hlt (by rw [hI, hb, g1, this]; rfl)]
    ·rename_i g1 g2 g3
     exact Af.le ⟨j + 1, ⟨⟨hjk, hq2 (fun h => g3 h.2.2)⟩, (by first | omega | (simp only; omega))⟩, rfl⟩ (by simp +contextual -dsimp only [↓SD, SU, simprocAttr, Int.natCast_add]) (by simp +contextual -dsimp only [↓SD, SU, simprocAttr, AU, g1])
    ·rename_i g1 g2
     exact Af.le ⟨j + 1, ⟨⟨hjk, hq2 (fun h => g2 h.2.1)⟩, (by first | omega | (simp only; omega))⟩, rfl⟩ (by simp +contextual -dsimp only [↓SD, SU, simprocAttr, Int.natCast_add]) (by simp +contextual -dsimp only [↓SD, SU, simprocAttr, AU, g1])
    ·rename_i g1
     exact Af.le ⟨j + 1, ⟨⟨hjk, hq2 (fun h => g1 h.1)⟩, (by first | omega | (simp only; omega))⟩, rfl⟩ (by simp +contextual -dsimp only [↓SD, SU, simprocAttr, Int.natCast_add]) (by simp +contextual -dsimp only [↓SD, SU, simprocAttr, AU])
   ·obtain rfl : j = k := by omega
    have hIk : GN l j = true := by
     rw [hI, hb, Bool.true_and, Bool.not_eq_true', Bool.and_eq_false_iff]
     by_cases g : a.kind = 2
     ·right
      rw [← Bool.not_eq_true, hany]
      rintro ⟨i, h, hi, g2, g3⟩
      exact hq i h hi ⟨g, g2, g3⟩
     ·left; exact decide_eq_false g
    simp +contextual -dsimp only [↓SD, SU, simprocAttr, Nat.lt_irrefl]
    refine ⟨by omega, Af.le ⟨j + 1, ⟨⟨hlt, fun i hi => (Nat.lt_succ_iff_lt_or_eq.1 hi).elim (hp i) (fun e => e ▸ hIk)⟩, (by first | omega | (simp only; omega))⟩, rfl⟩ (by simp +contextual -dsimp only [↓SD, SU, simprocAttr, Int.natCast_add]) trivial⟩
 ·obtain rfl : k = l.length := by omega
  have C := Yj l hx (l.length + 1) 0 (by omega) (by omega)
  simp +contextual -dsimp only [↓SD, SU, simprocAttr, Ab, Nat.lt_irrefl]
  refine Aa _ C ?_
  simp +contextual -dsimp only [↓SD, SU, simprocAttr, Ab]
  congr 1
  cases ht : Fh (B2 l) l.length with
  | true =>
   rw [ZH (by omega) (by omega) ht hp]
   unfold Fh at ht
   rw [of_decide_eq_true ht]; simp [Hn]
  | false =>
   rw [RY ht]
   unfold Fh at ht
   cases ho : B9 (B2 l) l.length (l.length + 1) 0 with
   | none => simp [Hn]
   | some m =>
    rw [ho] at ht
    have hne : m ≠ l.length := fun e => by simp [e] at ht
    exact decide_eq_false (by simp only [Hn]; omega)

end Go.Proofs.YtppjinmlfcokaaaGreat
set_option linter.unusedVariables false
set_option maxRecDepth 100000
namespace Go.Proofs.YtppjinmlfcokaaaGreat
open Go.Proofs.YtppjinmlfcokaaaGreat.Av

theorem Gu : Tryz.prog.follows .mixedOrders = true := by kernel_rfl

def MN : Ir Tryz.prog 189 [] [] 1 := ⟨_, _, Tryz.func189, Gu, by kernel_rfl, Aj [] Tryz.progTables (by conv => lhs; cbv) (by kernel_rfl)⟩
def KC : Ir Tryz.prog 204 [] [] 1 := ⟨_, _, Tryz.func204, Gu, by kernel_rfl, Aj [] Tryz.progTables (by conv => lhs; cbv) (by kernel_rfl)⟩
def Jm : Ir Tryz.prog 158 [] [] 1 := ⟨_, _, Tryz.func158, Gu, by kernel_rfl, Aj [] Tryz.progTables (by conv => lhs; cbv) (by kernel_rfl)⟩
def Fq : Ir Tryz.prog 169 [] [] 1 := ⟨_, _, Tryz.func169, Gu, by kernel_rfl, Aj [] Tryz.progTables (by conv => lhs; cbv) (by kernel_rfl)⟩
def HK : Ir Tryz.prog 143 [] [] 2 := ⟨_, _, Tryz.func143, Gu, by kernel_rfl, Aj [] Tryz.progTables (by conv => lhs; cbv) (by kernel_rfl)⟩
def MF : Ir Tryz.prog 128 [] [] 1 := ⟨_, _, Tryz.func128, Gu, by kernel_rfl, Aj [] Tryz.progTables (by conv => lhs; cbv) (by kernel_rfl)⟩
end Go.Proofs.YtppjinmlfcokaaaGreat
