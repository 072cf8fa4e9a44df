/-
 NODES OF RIGHT PROGRAMS: what the program's nodeOk tells, by abstract texts. Conditions: none.
-/
import Derived.Test.YtjbcnilllfaipaaGreatYJ14
import Derived.Test.YtjbcnilllfaipaaGreatYTyW
import Derived.Test.YtjbcnilllfaipaaGreatYJ23
import Derived.Test.YtjbcnilllfaipaaGreatProg
import Derived.Test.YtjbcnilllfaipaaGreatYAvDraw
import Derived.Test.YtjbcnilllfaipaaGreatYJ08
import Derived.Test.YtjbcnilllfaipaaGreatYJ11
import Derived.Test.YtjbcnilllfaipaaGreatYGProg
set_option linter.unusedVariables false
set_option linter.unusedSimpArgs false
set_option maxRecDepth 100000
namespace Go.Proofs.YtjbcnilllfaipaaGreat
open Go.RowKit Go.Proofs.YtjbcnilllfaipaaGreat.Av Go.Proofs.YtjbcnilllfaipaaGreat.Ml
open Go.Proofs.YtjbcnilllfaipaaGreat.Av.AVal (av)

theorem AbM (k : Int) : Ap Tryz.prog 123 [.int .i64 k] (.int .i64 (AJ k)) := by
 refine KP.F rfl (by simp; exact BL _) (BL _) ?_
 simp +contextual -dsimp (maxSteps := 2000000) only [↓SD, SU, simprocAttr, KP]
 (repeat' (first | intro _ | refine And.intro ?_ ?_))
 all_goals first | (simp [AJ, *]; done) | (subst_vars; rfl)
theorem Wx (k : Int) : Ap Tryz.prog 74 [.int .i64 k] (.int .i64 (AJ k)) := by
 refine Jl.F rfl (by simp; exact BL _) (BL _) ?_
 simp +contextual -dsimp (maxSteps := 2000000) only [↓SD, SU, simprocAttr, Jl]
 (repeat' (first | intro _ | refine And.intro ?_ ?_))
 all_goals first | (simp [AJ, *]; done) | (subst_vars; rfl)
theorem kinds {k : Int} (h : 1 ≤ k ∧ k ≤ 19) : k = 1 ∨ k = 2 ∨ k = 3 ∨ k = 4 ∨ k = 5 ∨ k = 6 ∨ k = 7 ∨ k = 8 ∨ k = 9 ∨ k = 10 ∨ k = 11 ∨ k = 12 ∨ k = 13 ∨ k = 14 ∨ k = 15 ∨ k = 16 ∨ k = 17 ∨ k = 18 ∨ k = 19 := by omega

set_option maxHeartbeats 8000000 in
theorem Zx (nm : Node → Bool) (p : Program) (n : Node) (g : FuncId) (caps : List AV) (hpc : ∀ x ∈ caps, Ac x) (hc : ∀ hp, caps.map (AV.AR hp) = caps) (hg : Ap Tryz.prog g (av n :: caps) (.bool (nm n)))
  (hl : p.nodes.length ≤ 1099511627776) (hk : n.kids.length ≤ 1099511627776) (hs : n.s.size ≤ 1099511627776) (hq : n.As.length ≤ 1099511627776) (hin : ∀ k ∈ n.kids, 0 ≤ k ∧ k < p.nodes.length) :
  Ap Tryz.prog 88 [av p, av n, .fn g caps] (.bool (AP nm p.nodes n)) := by
 refine Dx.F rfl (by simp; exact ⟨AVal.clean p, AVal.clean n, Ac.fn hpc⟩) (Ac.bool _) ?_
 have CA := AbM n.kind
 rw [AL] at hg
 by_cases hkk : 1 ≤ n.kind ∧ n.kind ≤ 19
 ·obtain ⟨kind, pos, nn, s, kids, As⟩ := n
  simp only at hk hs hq hin hkk CA hg
  rcases kinds hkk with rfl | rfl | rfl | rfl | rfl | rfl | rfl | rfl | rfl | rfl | rfl | rfl | rfl | rfl | rfl | rfl | rfl | rfl | rfl
  all_goals first | (rw [show AJ 1 = 0 from rfl] at CA; have hA : AJ 1 = 0 := rfl; clear hkk) | (rw [show AJ 2 = 0 from rfl] at CA; have hA : AJ 2 = 0 := rfl; clear hkk) | (rw [show AJ 3 = 0 from rfl] at CA; have hA : AJ 3 = 0 := rfl; clear hkk) | (rw [show AJ 4 = -1 from rfl] at CA; have hA : AJ 4 = -1 := rfl; clear hkk) | (rw [show AJ 5 = 1 from rfl] at CA; have hA : AJ 5 = 1 := rfl; clear hkk) | (rw [show AJ 6 = 2 from rfl] at CA; have hA : AJ 6 = 2 := rfl; clear hkk) | (rw [show AJ 7 = 2 from rfl] at CA; have hA : AJ 7 = 2 := rfl; clear hkk) | (rw [show AJ 8 = 2 from rfl] at CA; have hA : AJ 8 = 2 := rfl; clear hkk) | (rw [show AJ 9 = 3 from rfl] at CA; have hA : AJ 9 = 3 := rfl; clear hkk) | (rw [show AJ 10 = 2 from rfl] at CA; have hA : AJ 10 = 2 := rfl; clear hkk) | (rw [show AJ 11 = 2 from rfl] at CA; have hA : AJ 11 = 2 := rfl; clear hkk) | (rw [show AJ 12 = 0 from rfl] at CA; have hA : AJ 12 = 0 := rfl; clear hkk) | (rw [show AJ 13 = -1 from rfl] at CA; have hA : AJ 13 = -1 := rfl; clear hkk) | (rw [show AJ 14 = 1 from rfl] at CA; have hA : AJ 14 = 1 := rfl; clear hkk) | (rw [show AJ 15 = 2 from rfl] at CA; have hA : AJ 15 = 2 := rfl; clear hkk) | (rw [show AJ 16 = 1 from rfl] at CA; have hA : AJ 16 = 1 := rfl; clear hkk) | (rw [show AJ 17 = 1 from rfl] at CA; have hA : AJ 17 = 1 := rfl; clear hkk) | (rw [show AJ 18 = 2 from rfl] at CA; have hA : AJ 18 = 2 := rfl; clear hkk) | (rw [show AJ 19 = 2 from rfl] at CA; have hA : AJ 19 = 2 := rfl; clear hkk)
  case inr.inr.inr.inl =>
   rcases kids with _ | ⟨k0, _ | ⟨k1, ks⟩⟩
   case cons.nil =>
    obtain ⟨g0, g1⟩ := hin k0 (by simp)
    have g2 : k0.toNat < p.nodes.length := by omega
    have e := KE p.nodes default g2
    rw [AL] at e
    rcases As with _ | ⟨q0, qs⟩ <;>
    (simp +contextual -dsimp (maxSteps := 2000000) only [↓SD, SU, simprocAttr, Dx, AL, Aj, Bo, Aa, hc]
     refine Ab _ CA ?_
     simp +contextual -dsimp (maxSteps := 2000000) only [↓SD, SU, simprocAttr, Aa, g0, g1, g2, e]
     (repeat' (first | intro _ | refine And.intro ?_ ?_))
     all_goals first | omega | skip
     all_goals first | (refine Ab _ (HO _ _ _ (by omega)) ?_; simp +contextual -dsimp (maxSteps := 2000000) only [↓SD, SU, simprocAttr, *]; (repeat' (first | intro _ | refine And.intro ?_ ?_))) | skip
     all_goals first | omega | (simp [AP, AG, AE, *]; done))
   all_goals
    rcases As with _ | ⟨q0, qs⟩ <;>
    (simp +contextual -dsimp (maxSteps := 2000000) only [↓SD, SU, simprocAttr, Dx, AL, Aj, Bo, Aa, hc]
     refine Ab _ CA ?_
     simp +contextual -dsimp (maxSteps := 2000000) only [↓SD, SU, simprocAttr, Aa]
     (repeat' (first | intro _ | refine And.intro ?_ ?_))
     all_goals first | omega | skip
     all_goals first | (refine Ab _ (HO _ _ _ (by omega)) ?_; simp +contextual -dsimp (maxSteps := 2000000) only [↓SD, SU, simprocAttr, *, Aa]; (repeat' (first | intro _ | refine And.intro ?_ ?_))) | skip
     all_goals first | omega | (simp [AP, AG, AE, *]; done))
  case inr.inr.inr.inr.inr.inr.inr.inl =>
   cases hb : nm ⟨8, pos, nn, s, kids, As⟩ <;> rw [hb] at hg <;>
   rcases kids with _ | ⟨k0, ks⟩
   case false.cons | true.cons =>
    obtain ⟨g0, g1⟩ := hin k0 (by simp)
    have g2 : k0.toNat < p.nodes.length := by omega
    have e := KE p.nodes default g2
    rw [AL] at e
    rcases As with _ | ⟨q0, qs⟩ <;>
    (simp +contextual -dsimp (maxSteps := 2000000) only [↓SD, SU, simprocAttr, Dx, AL, Aj, Bo, Aa, hc]
     refine Ab _ CA ?_
     simp +contextual -dsimp (maxSteps := 2000000) only [↓SD, SU, simprocAttr, Aa, g0, g1, g2, e, hc]
     (repeat' (first | intro _ | refine And.intro ?_ ?_))
     all_goals first | omega | skip
     all_goals first | (subst_vars; refine Ab _ hg ?_; simp +contextual -dsimp (maxSteps := 2000000) only [↓SD, SU, simprocAttr, *, Aa]; (repeat' (first | intro _ | refine And.intro ?_ ?_))) | skip
     all_goals first | omega | (simp [AP, AG, AE, *]; done) | (simp [AP, AG, AE, *]; omega) | trace_state)
   all_goals
    rcases As with _ | ⟨q0, qs⟩ <;>
    (simp +contextual -dsimp (maxSteps := 2000000) only [↓SD, SU, simprocAttr, Dx, AL, Aj, Bo, Aa, hc]
     refine Ab _ CA ?_
     simp +contextual -dsimp (maxSteps := 2000000) only [↓SD, SU, simprocAttr, Aa, hc]
     (repeat' (first | intro _ | refine And.intro ?_ ?_))
     all_goals first | omega | skip
     all_goals first | (subst_vars; refine Ab _ hg ?_; simp +contextual -dsimp (maxSteps := 2000000) only [↓SD, SU, simprocAttr, *, Aa]; (repeat' (first | intro _ | refine And.intro ?_ ?_))) | skip
     all_goals first | omega | (simp [AP, AG, AE, *]; done))
  all_goals
   rcases As with _ | ⟨q0, qs⟩ <;>
   ((try simp only [List.length_cons] at hq)
    simp +contextual -dsimp (maxSteps := 2000000) only [↓SD, SU, simprocAttr, Dx, AL, Aj, Aa, hc]
    refine Ab _ CA ?_
    simp +contextual -dsimp (maxSteps := 2000000) only [↓SD, SU, simprocAttr, Aa, hc]
    (repeat' (first | intro _ | refine And.intro ?_ ?_))
    all_goals first | omega | skip
    all_goals first | (subst_vars; refine Ab _ hg ?_; simp +contextual -dsimp (maxSteps := 2000000) only [↓SD, SU, simprocAttr, *]; (repeat' (first | intro _ | refine And.intro ?_ ?_))) | (refine Ab _ (Em _ _ _) ?_; simp +contextual -dsimp (maxSteps := 2000000) only [↓SD, SU, simprocAttr, *]; (repeat' (first | intro _ | refine And.intro ?_ ?_))) | (refine Ab _ Wi ?_; simp +contextual -dsimp (maxSteps := 2000000) only [↓SD, SU, simprocAttr, *]; refine Ab _ (Hj opsL _ (by decide)) ?_; simp +contextual -dsimp (maxSteps := 2000000) only [↓SD, SU, simprocAttr, *]; (repeat' (first | intro _ | refine And.intro ?_ ?_))) | skip
    all_goals first | omega | (simp [AP, AG, AE, *]; done) | (have kne : kids ≠ [] := (fun h => by subst h; simp at *); simp [AP, hA, kne]; done) | (simp [AP, hA, *]; omega) | trace_state)
 ·obtain ⟨kind, pos, nn, s, kids, As⟩ := n
  simp only at hk hs hq hin hkk CA hg
  have c1 : ¬ kind = 1 := by omega
  have c2 : ¬ kind = 2 := by omega
  have c3 : ¬ kind = 3 := by omega
  have c4 : ¬ kind = 4 := by omega
  have c5 : ¬ kind = 5 := by omega
  have c6 : ¬ kind = 6 := by omega
  have c7 : ¬ kind = 7 := by omega
  have c8 : ¬ kind = 8 := by omega
  have c9 : ¬ kind = 9 := by omega
  have c10 : ¬ kind = 10 := by omega
  have c11 : ¬ kind = 11 := by omega
  have c12 : ¬ kind = 12 := by omega
  have c13 : ¬ kind = 13 := by omega
  have c14 : ¬ kind = 14 := by omega
  have c15 : ¬ kind = 15 := by omega
  have c16 : ¬ kind = 16 := by omega
  have c17 : ¬ kind = 17 := by omega
  have c18 : ¬ kind = 18 := by omega
  have c19 : ¬ kind = 19 := by omega
  have hA : AJ kind = -1 := by simp [AJ, c1, c2, c3, c4, c5, c6, c7, c8, c9, c10, c11, c12, c13, c14, c15, c16, c17, c18, c19]
  rw [hA] at CA
  simp +contextual -dsimp (maxSteps := 2000000) only [↓SD, SU, simprocAttr, Dx, AL, Aj, Aa, hc]
  refine Ab _ CA ?_
  simp +contextual -dsimp (maxSteps := 2000000) only [↓SD, SU, simprocAttr, Aa, hc, c1, c2, c3, c4, c5, c6, c7, c8, c9, c10, c11, c12, c13, c14, c15, c16, c17, c18, c19]
  (repeat' (first | intro _ | refine And.intro ?_ ?_))
  all_goals first | omega | (simp [AP, hA, c1, c2, c3, c4, c5, c6, c7, c8, c9, c10, c11, c12, c13, c14, c15, c16, c17, c18, c19]; done) | trace_state
end Go.Proofs.YtjbcnilllfaipaaGreat
set_option linter.unusedVariables false
set_option maxRecDepth 100000
namespace Go.Proofs.YtjbcnilllfaipaaGreat
open Go.Proofs.YtjbcnilllfaipaaGreat.Av

theorem Mi : Tryz.prog.follows .mixedOrders = true := by kernel_rfl

def Da : Ir Tryz.prog 96 [] [] 2 := ⟨_, _, Tryz.func96, Mi, by kernel_rfl, Ag [] Tryz.progTables (by conv => lhs; cbv) (by kernel_rfl)⟩
def CJ : Ir Tryz.prog 52 [] [] 2 := ⟨_, _, Tryz.func52, Mi, by kernel_rfl, Ag [] Tryz.progTables (by conv => lhs; cbv) (by kernel_rfl)⟩
end Go.Proofs.YtjbcnilllfaipaaGreat
set_option linter.unusedVariables false
set_option linter.unusedSimpArgs false
set_option maxRecDepth 100000
namespace Go.Proofs.YtjbcnilllfaipaaGreat
open Go.RowKit Go.Proofs.YtjbcnilllfaipaaGreat.Av Go.Proofs.YtjbcnilllfaipaaGreat.Ml
open Go.Proofs.YtjbcnilllfaipaaGreat.Av.AVal (av)

theorem M0 (l : List Pat) (g : FuncId) (caps : List AV) (p : Pat → Bool) (hl : l.length ≤ 1099511627776) (hp : ∀ x ∈ caps, Ac x) (hc : ∀ hp, caps.map (AV.AR hp) = caps) (hg : ∀ x ∈ l, Ap Tryz.prog g (av x :: caps) (.bool (p x))) :
  Ap Tryz.prog 96 [.sl (l.map av), .fn g caps] (.int .i64 (indexOf l p)) := by
 refine Da.F rfl (by simp; exact ⟨Aq l, Ac.fn hp⟩) (Ac.int _ _) ?_
 simp +contextual -dsimp only [↓SD, SU, simprocAttr, Da, Aa]
 refine Al (X := Nat) (fun k => ⟨[(0, .sl (l.map av)), (1, .fn g caps), (7, .int .i64 l.length), (8, .int .i64 k)], []⟩) (fun k => k ≤ l.length ∧ (l.take k).all (fun x => !p x) = true) (fun k => l.length - k) 0 ⟨Nat.zero_le _, rfl⟩ (by simp +contextual -dsimp only [↓SD, SU, simprocAttr]) trivial ?_
 intro k ⟨hk, hpk⟩
 by_cases hlt : k < l.length
 ·have e := getD_map av l k .top hlt
  have C := hg l[k] (List.getElem_mem hlt)
  rw [C9] at C
  simp +contextual -dsimp only [↓SD, SU, simprocAttr, Aa, e, C9, hlt, hc]
  refine Ab _ C ?_
  simp +contextual -dsimp only [↓SD, SU, simprocAttr]
  refine ⟨fun h1 => by rw [K7 hlt hpk h1], fun h1 => ⟨by omega, ?_⟩⟩
  exact Af.le ⟨k + 1, ⟨⟨hlt, by rw [A5 _ hlt hpk, h1]; rfl⟩, (by first | omega | (simp only; omega))⟩, rfl⟩ (by simp +contextual -dsimp only [↓SD, SU, simprocAttr, Int.natCast_add]) trivial
 ·obtain rfl : k = l.length := by omega
  rw [List.take_length] at hpk
  simp +contextual -dsimp only [↓SD, SU, simprocAttr, Aa, Nat.lt_irrefl, I4 hpk]
theorem KI (l : List Pat) (g : FuncId) (caps : List AV) (p : Pat → Bool) (hl : l.length ≤ 1099511627776) (hp : ∀ x ∈ caps, Ac x) (hc : ∀ hp, caps.map (AV.AR hp) = caps) (hg : ∀ x ∈ l, Ap Tryz.prog g (av x :: caps) (.bool (p x))) :
  Ap Tryz.prog 52 [.sl (l.map av), .fn g caps] (.bool (l.any p)) := by
 refine CJ.F rfl (by simp; exact ⟨Aq l, Ac.fn hp⟩) (Ac.bool _) ?_
 simp +contextual -dsimp only [↓SD, SU, simprocAttr, CJ, hc]
 refine Ab _ (M0 l g caps p hl hp hc hg) ?_
 simp +contextual -dsimp only [↓SD, SU, simprocAttr, Kk]

end Go.Proofs.YtjbcnilllfaipaaGreat
set_option linter.unusedVariables false
set_option maxRecDepth 100000
namespace Go.Proofs.YtjbcnilllfaipaaGreat
open Go.Proofs.YtjbcnilllfaipaaGreat.Av

theorem KV : Tryz.prog.follows .mixedOrders = true := by kernel_rfl

def CY : Ir Tryz.prog 126 [] [] 2 := ⟨_, _, Tryz.func126, KV, by kernel_rfl, Ag [] Tryz.progTables (by conv => lhs; cbv) (by kernel_rfl)⟩
def Cr : Ir Tryz.prog 89 [] [] 2 := ⟨_, _, Tryz.func89, KV, by kernel_rfl, Ag [] Tryz.progTables (by conv => lhs; cbv) (by kernel_rfl)⟩
end Go.Proofs.YtjbcnilllfaipaaGreat
set_option linter.unusedVariables false
set_option linter.unusedSimpArgs false
set_option maxRecDepth 100000
namespace Go.Proofs.YtjbcnilllfaipaaGreat
open Go.RowKit Go.Proofs.YtjbcnilllfaipaaGreat.Av Go.Proofs.YtjbcnilllfaipaaGreat.Ml
open Go.Proofs.YtjbcnilllfaipaaGreat.Av.AVal (av)

theorem MC (l : List BP) (g : FuncId) (caps : List AV) (p : BP → Bool) (hl : l.length ≤ 1099511627776) (hp : ∀ x ∈ caps, Ac x) (hc : ∀ hp, caps.map (AV.AR hp) = caps) (hg : ∀ x ∈ l, Ap Tryz.prog g (av x :: caps) (.bool (p x))) :
  Ap Tryz.prog 126 [.sl (l.map av), .fn g caps] (.int .i64 (indexOf l p)) := by
 refine CY.F rfl (by simp; exact ⟨Aq l, Ac.fn hp⟩) (Ac.int _ _) ?_
 simp +contextual -dsimp (maxSteps := 2000000) only [↓SD, SU, simprocAttr, CY, Aa]
 refine Al (X := Nat) (fun k => ⟨[(0, .sl (l.map av)), (1, .fn g caps), (7, .int .i64 l.length), (8, .int .i64 k)], []⟩) (fun k => k ≤ l.length ∧ (l.take k).all (fun x => !p x) = true) (fun k => l.length - k) 0 ⟨Nat.zero_le _, rfl⟩ (by simp +contextual -dsimp only [↓SD, SU, simprocAttr]) trivial ?_
 intro k ⟨hk, hpk⟩
 by_cases hlt : k < l.length
 ·have e := getD_map av l k .top hlt
  have C := hg l[k] (List.getElem_mem hlt)
  rw [BZ] at C
  simp +contextual -dsimp (maxSteps := 2000000) only [↓SD, SU, simprocAttr, Aa, e, BZ, hlt, hc]
  refine Ab _ C ?_
  simp +contextual -dsimp (maxSteps := 2000000) only [↓SD, SU, simprocAttr]
  refine ⟨fun h1 => by rw [K7 hlt hpk h1], fun h1 => ⟨by omega, ?_⟩⟩
  exact Af.le ⟨k + 1, ⟨⟨hlt, by rw [A5 _ hlt hpk, h1]; rfl⟩, (by first | omega | (simp only; omega))⟩, rfl⟩ (by simp +contextual -dsimp only [↓SD, SU, simprocAttr, Int.natCast_add]) trivial
 ·obtain rfl : k = l.length := by omega
  rw [List.take_length] at hpk
  simp +contextual -dsimp (maxSteps := 2000000) only [↓SD, SU, simprocAttr, Aa, Nat.lt_irrefl, I4 hpk]
theorem Ks (l : List BP) (g : FuncId) (caps : List AV) (p : BP → Bool) (hl : l.length ≤ 1099511627776) (hp : ∀ x ∈ caps, Ac x) (hc : ∀ hp, caps.map (AV.AR hp) = caps) (hg : ∀ x ∈ l, Ap Tryz.prog g (av x :: caps) (.bool (p x))) :
  Ap Tryz.prog 89 [.sl (l.map av), .fn g caps] (.bool (l.any p)) := by
 refine Cr.F rfl (by simp; exact ⟨Aq l, Ac.fn hp⟩) (Ac.bool _) ?_
 simp +contextual -dsimp (maxSteps := 2000000) only [↓SD, SU, simprocAttr, Cr, hc]
 refine Ab _ (MC l g caps p hl hp hc hg) ?_
 simp +contextual -dsimp (maxSteps := 2000000) only [↓SD, SU, simprocAttr, Kk]

end Go.Proofs.YtjbcnilllfaipaaGreat
