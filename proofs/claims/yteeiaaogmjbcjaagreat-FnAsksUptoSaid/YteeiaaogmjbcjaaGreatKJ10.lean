/-
 PatOk OF THE REFERENCE, by its abstract text. Conditions: none.
-/
import Derived.Test.YteeiaaogmjbcjaaGreatKJ09
import Derived.Test.YteeiaaogmjbcjaaGreatRows
import Derived.Test.YteeiaaogmjbcjaaGreatKJ05
import Derived.Test.YteeiaaogmjbcjaaGreatKJ06
import Derived.Test.YteeiaaogmjbcjaaGreatProg
import Derived.Test.YteeiaaogmjbcjaaGreatKAvDraw
import Derived.Test.YteeiaaogmjbcjaaGreatKJ07
set_option linter.unusedVariables false
set_option linter.unusedSimpArgs false
set_option maxRecDepth 100000
namespace Go.Proofs.YteeiaaogmjbcjaaGreat
open Go.RowKit Go.Proofs.YteeiaaogmjbcjaaGreat.Av Go.Proofs.YteeiaaogmjbcjaaGreat.Ml
open Go.Proofs.YteeiaaogmjbcjaaGreat.Av.AVal (av)

theorem Vr {l : List AU} {i : Nat} (hi : i ≤ l.length) (s : ByteArray) : ((varsOf (l.take i)).any fun x => decide (s = x)) = true ↔ ∃ j, ∃ h : j < l.length, j < i ∧ l[j].kind = 2 ∧ l[j].s = s := by
 rw [List.any_eq_true]
 simp only [varsOf, List.mem_filterMap, decide_eq_true_eq]
 constructor
 ·rintro ⟨x, ⟨n, hn, hx⟩, rfl⟩
  obtain ⟨j, hj, rfl⟩ := List.mem_take_iff_getElem.1 hn
  split at hx
  ·rename_i hk
   exact ⟨j, by omega, by omega, hk, by simpa using hx⟩
  ·cases hx
 ·rintro ⟨j, hj, hji, hk, rfl⟩
  exact ⟨_, ⟨l[j], List.mem_take_iff_getElem.2 ⟨j, by omega, rfl⟩, by simp [hk]⟩, rfl⟩

def Ac3 (l : List AU) (a : AU) (j : Nat) : Prop := ∀ i, ∀ h : i < l.length, i < j → ¬ (a.kind = 2 ∧ l[i].kind = 2 ∧ l[i].s = a.s)
theorem K0 (l : List AU) (hx : AB.bulk l ≤ 1048576) : AG Tryz.prog 9 [.agg [.sl (l.map av)]] (.bool (Dg l)) := by
 have hl := Bh l
 refine Kl.F rfl (by simp; exact Aj.agg (by simp; exact Aw l)) (Aj.bool _) ?_
 simp +contextual -dsimp only [↓SD, SU, simprocAttr, Kl, Aa]
 refine ⟨fun h1 => ⟨fun h2 => by rw [Kz (by omega)], fun h2 => ?_⟩, fun h1 => by rw [Kz (by omega)]⟩
 refine AF (X := Nat) (fun k => ⟨[(1, .obj [.sl (l.map av)]), (17, .sl (l.map av)), (18, .int .i64 l.length), (19, .int .i64 k)], []⟩) (fun k => k ≤ l.length ∧ ∀ i, i < k → FG l i = true) (fun k => l.length - k) 0 ⟨Nat.zero_le _, fun i h => by omega⟩ (by simp +contextual -dsimp only [↓SD, SU, simprocAttr]) trivial ?_
 intro k ⟨hk, hp⟩
 by_cases hlt : k < l.length
 ·have e := getD_map av l k .top hlt
  obtain ⟨s1, s2⟩ := Ed hx k hlt
  have C3 := TA l l[k] (by omega) (by omega) (by omega)
  have hI : FG l k = (Cy l l[k] && !(decide (l[k].kind = 2) && (varsOf (l.take k)).any fun x => decide (l[k].s = x))) := by simp only [FG, Be hlt]
  have hany := Vr (l := l) (i := k) (by omega) l[k].s
  generalize l[k] = a at *
  rw [A8] at C3
  simp +contextual -dsimp only [↓SD, SU, simprocAttr, Aa, hlt, e, A8]
  intro w
  cases hb : Cy l a with
  | false =>
   rw [hb] at C3
   refine Ae _ C3 ?_
   simp +contextual -dsimp only [↓SD, SU, simprocAttr]
   rw [Ni hlt (by rw [hI, hb]; rfl)]
  | true =>
   rw [hb] at C3
   refine Ae _ C3 ?_
   simp +contextual -dsimp only [↓SD, SU, simprocAttr]
   refine AF (X := Nat) (fun j => ⟨[(1, .obj [.sl (l.map av)]), (3, .int .i64 k), (4, .ptr 4 w 0 0), (5, .int .i64 j), (17, .sl (l.map av)), (18, .int .i64 l.length), (19, .int .i64 k)], [(4, ⟨w, false, 36, 4, [av a]⟩)]⟩) (fun j => j ≤ k ∧ Ac3 l a j) (fun j => k - j) 0 ⟨Nat.zero_le _, fun i _ h => by omega⟩ (by simp +contextual -dsimp only [↓SD, SU, simprocAttr]) (by simp +contextual -dsimp only [↓SD, SU, simprocAttr, A8]) ?_
   intro j ⟨hj, hq⟩
   by_cases hjk : j < k
   ·have hjl : j < l.length := by omega
    have e2 := getD_map av l j .top hjl
    simp +contextual -dsimp only [↓SD, SU, simprocAttr, Aa, hjk, hjl, e2, A8]
    have hq2 : ¬ (a.kind = 2 ∧ l[j].kind = 2 ∧ l[j].s = a.s) → Ac3 l a (j + 1) := fun h0 i hi hij => by
     rcases Nat.lt_succ_iff_lt_or_eq.1 hij with h1 | rfl
     ·exact hq i hi h1
     ·exact h0
    (repeat' (first | intro _ | refine And.intro ?_ ?_))
    all_goals first | omega | skip
    ·rename_i g1 g2 g3
     have : ((varsOf (l.take k)).any fun x => decide (a.s = x)) = true := hany.2 ⟨j, hjl, hjk, g2, g3⟩
     rw [Ni hlt (by rw [hI, hb, g1, this]; rfl)]
    ·rename_i g1 g2 g3
     exact Ah.le ⟨j + 1, ⟨⟨hjk, hq2 (fun h => g3 h.2.2)⟩, (by first | omega | (simp only; omega))⟩, rfl⟩ (by simp +contextual -dsimp only [↓SD, SU, simprocAttr, Int.natCast_add]) (by simp +contextual -dsimp only [↓SD, SU, simprocAttr, A8, g1])
    ·rename_i g1 g2
     exact Ah.le ⟨j + 1, ⟨⟨hjk, hq2 (fun h => g2 h.2.1)⟩, (by first | omega | (simp only; omega))⟩, rfl⟩ (by simp +contextual -dsimp only [↓SD, SU, simprocAttr, Int.natCast_add]) (by simp +contextual -dsimp only [↓SD, SU, simprocAttr, A8, g1])
    ·rename_i g1
     exact Ah.le ⟨j + 1, ⟨⟨hjk, hq2 (fun h => g1 h.1)⟩, (by first | omega | (simp only; omega))⟩, rfl⟩ (by simp +contextual -dsimp only [↓SD, SU, simprocAttr, Int.natCast_add]) (by simp +contextual -dsimp only [↓SD, SU, simprocAttr, A8])
   ·obtain rfl : j = k := by omega
    have hIk : FG l j = true := by
     rw [hI, hb, Bool.true_and, Bool.not_eq_true', Bool.and_eq_false_iff]
     by_cases g : a.kind = 2
     ·right
      rw [← Bool.not_eq_true, hany]
      rintro ⟨i, h, hi, g2, g3⟩
      exact hq i h hi ⟨g, g2, g3⟩
     ·left; exact decide_eq_false g
    simp +contextual -dsimp only [↓SD, SU, simprocAttr, Nat.lt_irrefl]
    refine ⟨by omega, Ah.le ⟨j + 1, ⟨⟨hlt, fun i hi => (Nat.lt_succ_iff_lt_or_eq.1 hi).elim (hp i) (fun e => e ▸ hIk)⟩, (by first | omega | (simp only; omega))⟩, rfl⟩ (by simp +contextual -dsimp only [↓SD, SU, simprocAttr, Int.natCast_add]) trivial⟩
 ·obtain rfl : k = l.length := by omega
  have C := VT l hx (l.length + 1) 0 (by omega) (by omega)
  simp +contextual -dsimp only [↓SD, SU, simprocAttr, Aa, Nat.lt_irrefl]
  refine Ae _ C ?_
  simp +contextual -dsimp only [↓SD, SU, simprocAttr, Aa]
  congr 1
  cases ht : Du (BK l) l.length with
  | true =>
   rw [Xp (by omega) (by omega) ht hp]
   unfold Du at ht
   rw [of_decide_eq_true ht]; simp [Me]
  | false =>
   rw [Qg ht]
   unfold Du at ht
   cases ho : B3 (BK l) l.length (l.length + 1) 0 with
   | none => simp [Me]
   | some m =>
    rw [ho] at ht
    have hne : m ≠ l.length := fun e => by simp [e] at ht
    exact decide_eq_false (by simp only [Me]; omega)

end Go.Proofs.YteeiaaogmjbcjaaGreat
set_option linter.unusedVariables false
namespace Go.Proofs.YteeiaaogmjbcjaaGreat
open Go.RowKit Go.Proofs.YteeiaaogmjbcjaaGreat.Ml

structure AY where
 kind : Int
 n : Int
 s : ByteArray
 kids : List Int
 deriving DecidableEq, Inhabited

def AY.rep (S : Nat → Prop) (w : World) (cs : List Value) (x : AY) : Prop := ∃ v3, cs = [Value.int .i64 x.kind, Value.int .i64 x.n, Value.string x.s, v3] ∧ (-9223372036854775808 ≤ x.kind ∧ x.kind ≤ 9223372036854775807) ∧ (-9223372036854775808 ≤ x.n ∧ x.n ≤ 9223372036854775807) ∧ x.s.size ≤ maxLen ∧ En S w v3 x.kids
instance : Rep AY where
 n := 4
 rep := AY.rep
 len := by rintro _ _ _ _ ⟨v3, rfl, _⟩; rfl
 carry := by rintro _ _ _ _ _ _ ⟨v3, rfl, h0, h1, h2, h3⟩ hS hw; exact ⟨v3, rfl, h0, h1, h2, h3.carry hS hw⟩
instance : AB AY := ⟨fun x => AB.bulk x.kind + AB.bulk x.n + AB.bulk x.s + AB.bulk x.kids + 1, fun _ => by omega⟩

structure Data where
 nodes : List AY
 deriving DecidableEq, Inhabited

def Data.rep (S : Nat → Prop) (w : World) (cs : List Value) (x : Data) : Prop := ∃ v0, cs = [v0] ∧ En S w v0 x.nodes
instance : Rep Data where
 n := 1
 rep := Data.rep
 len := by rintro _ _ _ _ ⟨v0, rfl, _⟩; rfl
 carry := by rintro _ _ _ _ _ _ ⟨v0, rfl, h0⟩ hS hw; exact ⟨v0, rfl, h0.carry hS hw⟩
instance : AB Data := ⟨fun x => AB.bulk x.nodes + 1, fun _ => by omega⟩

end Go.Proofs.YteeiaaogmjbcjaaGreat
set_option linter.unusedVariables false
set_option maxRecDepth 100000
set_option linter.unusedVariables false
set_option linter.unusedSimpArgs false
set_option maxRecDepth 100000
namespace Go.Proofs.YteeiaaogmjbcjaaGreat
open Go.RowKit Go.Proofs.YteeiaaogmjbcjaaGreat.Av Go.Proofs.YteeiaaogmjbcjaaGreat.Ml
open Go.Proofs.YteeiaaogmjbcjaaGreat.Av.AVal (av)

instance : AVal AY := ⟨fun x => .agg [.int .i64 x.kind, .int .i64 x.n, .str x.s, .sl (x.kids.map av)], 4, fun _ => rfl, fun _ => rfl, fun x y hy => by
 simp only [AV.cells, List.mem_cons, List.not_mem_nil, or_false] at hy
 rcases hy with rfl | rfl | rfl | rfl <;> first | exact Aj.int _ _ | exact Aj.str _ | exact Aj.bool _ | exact Aw x.kids, fun _ _ => rfl, fun x y hy => by
 simp only [AV.cells, List.mem_cons, List.not_mem_nil, or_false] at hy
 rcases hy with rfl | rfl | rfl | rfl <;> rfl⟩
theorem Bm (x : AY) : av x = .agg [.int .i64 x.kind, .int .i64 x.n, .str x.s, .sl (x.kids.map av)] := eqq rfl
instance : EB AY := ⟨fun {S w cs y} h => by
 obtain ⟨v3, rfl, h0, h1, h2, r3⟩ := h
 exact VRs.cons (.int _ _ h0.1 h0.2) (VRs.cons (.int _ _ h1.1 h1.2) (VRs.cons (.str _ h2) (VRs.cons (C6 r3) (VRs.nil))))⟩

instance : AVal Data := ⟨fun x => .agg [.sl (x.nodes.map av)], 1, fun _ => rfl, fun _ => rfl, fun x y hy => by
 simp only [AV.cells, List.mem_cons, List.not_mem_nil, or_false] at hy
 subst hy; first | exact Aj.int _ _ | exact Aj.str _ | exact Aj.bool _ | exact Aw x.nodes, fun _ _ => rfl, fun x y hy => by
 simp only [AV.cells, List.mem_cons, List.not_mem_nil, or_false] at hy
 subst hy; rfl⟩
theorem Ip (x : Data) : av x = .agg [.sl (x.nodes.map av)] := eqq rfl
instance : EB Data := ⟨fun {S w cs y} h => by
 obtain ⟨v0, rfl, r0⟩ := h
 exact VRs.cons (C6 r0) (VRs.nil)⟩

end Go.Proofs.YteeiaaogmjbcjaaGreat
set_option linter.unusedVariables false
set_option maxRecDepth 100000
namespace Go.Proofs.YteeiaaogmjbcjaaGreat
open Go.Proofs.YteeiaaogmjbcjaaGreat.Av

theorem JP : Tryz.prog.follows .mixedOrders = true := by kernel_rfl

def Cf : Ir Tryz.prog 90 [] [] 2 := ⟨_, _, Tryz.func90, JP, by kernel_rfl, Ay [] Tryz.progTables (by conv => lhs; cbv) (by kernel_rfl)⟩
def BZ : Ir Tryz.prog 62 [] [] 2 := ⟨_, _, Tryz.func62, JP, by kernel_rfl, Ay [] Tryz.progTables (by conv => lhs; cbv) (by kernel_rfl)⟩
end Go.Proofs.YteeiaaogmjbcjaaGreat
set_option linter.unusedVariables false
set_option linter.unusedSimpArgs false
set_option maxRecDepth 100000
namespace Go.Proofs.YteeiaaogmjbcjaaGreat
open Go.RowKit Go.Proofs.YteeiaaogmjbcjaaGreat.Av Go.Proofs.YteeiaaogmjbcjaaGreat.Ml
open Go.Proofs.YteeiaaogmjbcjaaGreat.Av.AVal (av)

theorem KS (l : List AY) (g : FuncId) (caps : List AV) (p : AY → Bool) (hl : l.length ≤ 1099511627776) (hp : ∀ x ∈ caps, Aj x) (hc : ∀ hp, caps.map (AV.BB hp) = caps) (hg : ∀ x ∈ l, AG Tryz.prog g (av x :: caps) (.bool (p x))) :
  AG Tryz.prog 90 [.sl (l.map av), .fn g caps] (.int .i64 (indexOf l p)) := by
 refine Cf.F rfl (by simp; exact ⟨Aw l, Aj.fn hp⟩) (Aj.int _ _) ?_
 simp +contextual -dsimp only [↓SD, SU, simprocAttr, Cf, Aa]
 refine AF (X := Nat) (fun k => ⟨[(0, .sl (l.map av)), (1, .fn g caps), (7, .int .i64 l.length), (8, .int .i64 k)], []⟩) (fun k => k ≤ l.length ∧ (l.take k).all (fun x => !p x) = true) (fun k => l.length - k) 0 ⟨Nat.zero_le _, rfl⟩ (by simp +contextual -dsimp only [↓SD, SU, simprocAttr]) trivial ?_
 intro k ⟨hk, hpk⟩
 by_cases hlt : k < l.length
 ·have e := getD_map av l k .top hlt
  have C := hg l[k] (List.getElem_mem hlt)
  rw [Bm] at C
  simp +contextual -dsimp only [↓SD, SU, simprocAttr, Aa, e, Bm, hlt, hc]
  refine Ae _ C ?_
  simp +contextual -dsimp only [↓SD, SU, simprocAttr]
  refine ⟨fun h1 => by rw [GK hlt hpk h1], fun h1 => ⟨by omega, ?_⟩⟩
  exact Ah.le ⟨k + 1, ⟨⟨hlt, by rw [Gk _ hlt hpk, h1]; rfl⟩, (by first | omega | (simp only; omega))⟩, rfl⟩ (by simp +contextual -dsimp only [↓SD, SU, simprocAttr, Int.natCast_add]) trivial
 ·obtain rfl : k = l.length := by omega
  rw [List.take_length] at hpk
  simp +contextual -dsimp only [↓SD, SU, simprocAttr, Aa, Nat.lt_irrefl, E8 hpk]
theorem I7 (l : List AY) (g : FuncId) (caps : List AV) (p : AY → Bool) (hl : l.length ≤ 1099511627776) (hp : ∀ x ∈ caps, Aj x) (hc : ∀ hp, caps.map (AV.BB hp) = caps) (hg : ∀ x ∈ l, AG Tryz.prog g (av x :: caps) (.bool (p x))) :
  AG Tryz.prog 62 [.sl (l.map av), .fn g caps] (.bool (l.any p)) := by
 refine BZ.F rfl (by simp; exact ⟨Aw l, Aj.fn hp⟩) (Aj.bool _) ?_
 simp +contextual -dsimp only [↓SD, SU, simprocAttr, BZ, hc]
 refine Ae _ (KS l g caps p hl hp hc hg) ?_
 simp +contextual -dsimp only [↓SD, SU, simprocAttr, He]

end Go.Proofs.YteeiaaogmjbcjaaGreat
