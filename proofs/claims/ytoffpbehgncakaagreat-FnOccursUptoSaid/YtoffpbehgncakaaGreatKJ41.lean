/-
 NODES OF RIGHT PROGRAMS: what the program's nodeOk tells, by abstract texts. Conditions: none.
-/
import Derived.Test.YtoffpbehgncakaaGreatKJ39
import Derived.Test.YtoffpbehgncakaaGreatKTyW
import Derived.Test.YtoffpbehgncakaaGreatKJ14
import Derived.Test.YtoffpbehgncakaaGreatProg
import Derived.Test.YtoffpbehgncakaaGreatKAvDraw
import Derived.Test.YtoffpbehgncakaaGreatKJ11
import Derived.Test.YtoffpbehgncakaaGreatKJ18
import Derived.Test.YtoffpbehgncakaaGreatKJ19
set_option linter.unusedVariables false
set_option linter.unusedSimpArgs false
set_option maxRecDepth 100000
namespace Go.Proofs.YtoffpbehgncakaaGreat
open Go.RowKit Go.Proofs.YtoffpbehgncakaaGreat.Av Go.Proofs.YtoffpbehgncakaaGreat.Ml
open Go.Proofs.YtoffpbehgncakaaGreat.Av.AVal (av)

theorem Z0 (k : Int) : AH Tryz.prog 109 [.int .i64 k] (.int .i64 (A0 k)) := by
 refine Jy.F rfl (by simp; exact Cr _) (Cr _) ?_
 simp +contextual -dsimp (maxSteps := 2000000) only [↓SD, SU, simprocAttr, Jy]
 (repeat' (first | intro _ | refine And.intro ?_ ?_))
 all_goals first | (simp [A0, *]; done) | (subst_vars; rfl)
theorem US (k : Int) : AH Tryz.prog 105 [.int .i64 k] (.int .i64 (A0 k)) := by
 refine HD.F rfl (by simp; exact Cr _) (Cr _) ?_
 simp +contextual -dsimp (maxSteps := 2000000) only [↓SD, SU, simprocAttr, HD]
 (repeat' (first | intro _ | refine And.intro ?_ ?_))
 all_goals first | (simp [A0, *]; done) | (subst_vars; rfl)
theorem kinds {k : Int} (h : 1 ≤ k ∧ k ≤ 19) : k = 1 ∨ k = 2 ∨ k = 3 ∨ k = 4 ∨ k = 5 ∨ k = 6 ∨ k = 7 ∨ k = 8 ∨ k = 9 ∨ k = 10 ∨ k = 11 ∨ k = 12 ∨ k = 13 ∨ k = 14 ∨ k = 15 ∨ k = 16 ∨ k = 17 ∨ k = 18 ∨ k = 19 := by omega

set_option maxHeartbeats 8000000 in
theorem XU (nm : Node → Bool) (p : Program) (n : Node) (g : FuncId) (caps : List AV) (hpc : ∀ x ∈ caps, Ap x) (hc : ∀ hp, caps.map (AV.Bu hp) = caps) (hg : AH Tryz.prog g (av n :: caps) (.bool (nm n)))
  (hl : p.nodes.length ≤ 1099511627776) (hk : n.kids.length ≤ 1099511627776) (hs : n.s.size ≤ 1099511627776) (hq : n.AL.length ≤ 1099511627776) (hin : ∀ k ∈ n.kids, 0 ≤ k ∧ k < p.nodes.length) :
  AH Tryz.prog 65 [av p, av n, .fn g caps] (.bool (A1 nm p.nodes n)) := by
 refine Cv.F rfl (by simp; exact ⟨AVal.clean p, AVal.clean n, Ap.fn hpc⟩) (Ap.bool _) ?_
 have CA := Z0 n.kind
 rw [Ba] at hg
 by_cases hkk : 1 ≤ n.kind ∧ n.kind ≤ 19
 ·obtain ⟨kind, pos, nn, s, kids, AL⟩ := n
  simp only at hk hs hq hin hkk CA hg
  rcases kinds hkk with rfl | rfl | rfl | rfl | rfl | rfl | rfl | rfl | rfl | rfl | rfl | rfl | rfl | rfl | rfl | rfl | rfl | rfl | rfl
  all_goals first | (rw [show A0 1 = 0 from rfl] at CA; have hA : A0 1 = 0 := rfl; clear hkk) | (rw [show A0 2 = 0 from rfl] at CA; have hA : A0 2 = 0 := rfl; clear hkk) | (rw [show A0 3 = 0 from rfl] at CA; have hA : A0 3 = 0 := rfl; clear hkk) | (rw [show A0 4 = -1 from rfl] at CA; have hA : A0 4 = -1 := rfl; clear hkk) | (rw [show A0 5 = 1 from rfl] at CA; have hA : A0 5 = 1 := rfl; clear hkk) | (rw [show A0 6 = 2 from rfl] at CA; have hA : A0 6 = 2 := rfl; clear hkk) | (rw [show A0 7 = 2 from rfl] at CA; have hA : A0 7 = 2 := rfl; clear hkk) | (rw [show A0 8 = 2 from rfl] at CA; have hA : A0 8 = 2 := rfl; clear hkk) | (rw [show A0 9 = 3 from rfl] at CA; have hA : A0 9 = 3 := rfl; clear hkk) | (rw [show A0 10 = 2 from rfl] at CA; have hA : A0 10 = 2 := rfl; clear hkk) | (rw [show A0 11 = 2 from rfl] at CA; have hA : A0 11 = 2 := rfl; clear hkk) | (rw [show A0 12 = 0 from rfl] at CA; have hA : A0 12 = 0 := rfl; clear hkk) | (rw [show A0 13 = -1 from rfl] at CA; have hA : A0 13 = -1 := rfl; clear hkk) | (rw [show A0 14 = 1 from rfl] at CA; have hA : A0 14 = 1 := rfl; clear hkk) | (rw [show A0 15 = 2 from rfl] at CA; have hA : A0 15 = 2 := rfl; clear hkk) | (rw [show A0 16 = 1 from rfl] at CA; have hA : A0 16 = 1 := rfl; clear hkk) | (rw [show A0 17 = 1 from rfl] at CA; have hA : A0 17 = 1 := rfl; clear hkk) | (rw [show A0 18 = 2 from rfl] at CA; have hA : A0 18 = 2 := rfl; clear hkk) | (rw [show A0 19 = 2 from rfl] at CA; have hA : A0 19 = 2 := rfl; clear hkk)
  case inr.inr.inr.inl =>
   rcases kids with _ | ⟨k0, _ | ⟨k1, ks⟩⟩
   case cons.nil =>
    obtain ⟨g0, g1⟩ := hin k0 (by simp)
    have g2 : k0.toNat < p.nodes.length := by omega
    have e := Ji p.nodes default g2
    rw [Ba] at e
    rcases AL with _ | ⟨q0, qs⟩ <;>
    (simp +contextual -dsimp (maxSteps := 2000000) only [↓SD, SU, simprocAttr, Cv, Ba, Aw, Af, Aa, hc]
     refine Ac _ CA ?_
     simp +contextual -dsimp (maxSteps := 2000000) only [↓SD, SU, simprocAttr, Aa, g0, g1, g2, e]
     (repeat' (first | intro _ | refine And.intro ?_ ?_))
     all_goals first | omega | skip
     all_goals first | (refine Ac _ (Gp _ _ _ (by omega)) ?_; simp +contextual -dsimp (maxSteps := 2000000) only [↓SD, SU, simprocAttr, *]; (repeat' (first | intro _ | refine And.intro ?_ ?_))) | skip
     all_goals first | omega | (simp [A1, AM, AK, *]; done))
   all_goals
    rcases AL with _ | ⟨q0, qs⟩ <;>
    (simp +contextual -dsimp (maxSteps := 2000000) only [↓SD, SU, simprocAttr, Cv, Ba, Aw, Af, Aa, hc]
     refine Ac _ CA ?_
     simp +contextual -dsimp (maxSteps := 2000000) only [↓SD, SU, simprocAttr, Aa]
     (repeat' (first | intro _ | refine And.intro ?_ ?_))
     all_goals first | omega | skip
     all_goals first | (refine Ac _ (Gp _ _ _ (by omega)) ?_; simp +contextual -dsimp (maxSteps := 2000000) only [↓SD, SU, simprocAttr, *, Aa]; (repeat' (first | intro _ | refine And.intro ?_ ?_))) | skip
     all_goals first | omega | (simp [A1, AM, AK, *]; done))
  case inr.inr.inr.inr.inr.inr.inr.inl =>
   cases hb : nm ⟨8, pos, nn, s, kids, AL⟩ <;> rw [hb] at hg <;>
   rcases kids with _ | ⟨k0, ks⟩
   case false.cons | true.cons =>
    obtain ⟨g0, g1⟩ := hin k0 (by simp)
    have g2 : k0.toNat < p.nodes.length := by omega
    have e := Ji p.nodes default g2
    rw [Ba] at e
    rcases AL with _ | ⟨q0, qs⟩ <;>
    (simp +contextual -dsimp (maxSteps := 2000000) only [↓SD, SU, simprocAttr, Cv, Ba, Aw, Af, Aa, hc]
     refine Ac _ CA ?_
     simp +contextual -dsimp (maxSteps := 2000000) only [↓SD, SU, simprocAttr, Aa, g0, g1, g2, e, hc]
     (repeat' (first | intro _ | refine And.intro ?_ ?_))
     all_goals first | omega | skip
     all_goals first | (subst_vars; refine Ac _ hg ?_; simp +contextual -dsimp (maxSteps := 2000000) only [↓SD, SU, simprocAttr, *, Aa]; (repeat' (first | intro _ | refine And.intro ?_ ?_))) | skip
     all_goals first | omega | (simp [A1, AM, AK, *]; done) | (simp [A1, AM, AK, *]; omega) | trace_state)
   all_goals
    rcases AL with _ | ⟨q0, qs⟩ <;>
    (simp +contextual -dsimp (maxSteps := 2000000) only [↓SD, SU, simprocAttr, Cv, Ba, Aw, Af, Aa, hc]
     refine Ac _ CA ?_
     simp +contextual -dsimp (maxSteps := 2000000) only [↓SD, SU, simprocAttr, Aa, hc]
     (repeat' (first | intro _ | refine And.intro ?_ ?_))
     all_goals first | omega | skip
     all_goals first | (subst_vars; refine Ac _ hg ?_; simp +contextual -dsimp (maxSteps := 2000000) only [↓SD, SU, simprocAttr, *, Aa]; (repeat' (first | intro _ | refine And.intro ?_ ?_))) | skip
     all_goals first | omega | (simp [A1, AM, AK, *]; done))
  all_goals
   rcases AL with _ | ⟨q0, qs⟩ <;>
   ((try simp only [List.length_cons] at hq)
    simp +contextual -dsimp (maxSteps := 2000000) only [↓SD, SU, simprocAttr, Cv, Ba, Aw, Aa, hc]
    refine Ac _ CA ?_
    simp +contextual -dsimp (maxSteps := 2000000) only [↓SD, SU, simprocAttr, Aa, hc]
    (repeat' (first | intro _ | refine And.intro ?_ ?_))
    all_goals first | omega | skip
    all_goals first | (subst_vars; refine Ac _ hg ?_; simp +contextual -dsimp (maxSteps := 2000000) only [↓SD, SU, simprocAttr, *]; (repeat' (first | intro _ | refine And.intro ?_ ?_))) | (refine Ac _ (Dn _ _ _) ?_; simp +contextual -dsimp (maxSteps := 2000000) only [↓SD, SU, simprocAttr, *]; (repeat' (first | intro _ | refine And.intro ?_ ?_))) | (refine Ac _ UF ?_; simp +contextual -dsimp (maxSteps := 2000000) only [↓SD, SU, simprocAttr, *]; refine Ac _ (EH opsL _ (by decide)) ?_; simp +contextual -dsimp (maxSteps := 2000000) only [↓SD, SU, simprocAttr, *]; (repeat' (first | intro _ | refine And.intro ?_ ?_))) | skip
    all_goals first | omega | (simp [A1, AM, AK, *]; done) | (have kne : kids ≠ [] := (fun h => by subst h; simp at *); simp [A1, hA, kne]; done) | (simp [A1, hA, *]; omega) | trace_state)
 ·obtain ⟨kind, pos, nn, s, kids, AL⟩ := n
  simp only at hk hs hq hin hkk CA hg
  have c1 : ¬ kind = 1 := by omega
  have c2 : ¬ kind = 2 := by omega
  have c3 : ¬ kind = 3 := by omega
  have c4 : ¬ kind = 4 := by omega
  have c5 : ¬ kind = 5 := by omega
  have c6 : ¬ kind = 6 := by omega
  have c7 : ¬ kind = 7 := by omega
  have c8 : ¬ kind = 8 := by omega
  have c9 : ¬ kind = 9 := by omega
  have c10 : ¬ kind = 10 := by omega
  have c11 : ¬ kind = 11 := by omega
  have c12 : ¬ kind = 12 := by omega
  have c13 : ¬ kind = 13 := by omega
  have c14 : ¬ kind = 14 := by omega
  have c15 : ¬ kind = 15 := by omega
  have c16 : ¬ kind = 16 := by omega
  have c17 : ¬ kind = 17 := by omega
  have c18 : ¬ kind = 18 := by omega
  have c19 : ¬ kind = 19 := by omega
  have hA : A0 kind = -1 := by simp [A0, c1, c2, c3, c4, c5, c6, c7, c8, c9, c10, c11, c12, c13, c14, c15, c16, c17, c18, c19]
  rw [hA] at CA
  simp +contextual -dsimp (maxSteps := 2000000) only [↓SD, SU, simprocAttr, Cv, Ba, Aw, Aa, hc]
  refine Ac _ CA ?_
  simp +contextual -dsimp (maxSteps := 2000000) only [↓SD, SU, simprocAttr, Aa, hc, c1, c2, c3, c4, c5, c6, c7, c8, c9, c10, c11, c12, c13, c14, c15, c16, c17, c18, c19]
  (repeat' (first | intro _ | refine And.intro ?_ ?_))
  all_goals first | omega | (simp [A1, hA, c1, c2, c3, c4, c5, c6, c7, c8, c9, c10, c11, c12, c13, c14, c15, c16, c17, c18, c19]; done) | trace_state
end Go.Proofs.YtoffpbehgncakaaGreat
set_option linter.unusedVariables false
set_option maxRecDepth 100000
namespace Go.Proofs.YtoffpbehgncakaaGreat
open Go.Proofs.YtoffpbehgncakaaGreat.Av

theorem KG : Tryz.prog.follows .mixedOrders = true := by kernel_rfl

def Ci : Ir Tryz.prog 72 [] [] 2 := ⟨_, _, Tryz.func72, KG, by kernel_rfl, AA [] Tryz.progTables (by conv => lhs; cbv) (by kernel_rfl)⟩
def B8 : Ir Tryz.prog 35 [] [] 2 := ⟨_, _, Tryz.func35, KG, by kernel_rfl, AA [] Tryz.progTables (by conv => lhs; cbv) (by kernel_rfl)⟩
end Go.Proofs.YtoffpbehgncakaaGreat
set_option linter.unusedVariables false
set_option linter.unusedSimpArgs false
set_option maxRecDepth 100000
namespace Go.Proofs.YtoffpbehgncakaaGreat
open Go.RowKit Go.Proofs.YtoffpbehgncakaaGreat.Av Go.Proofs.YtoffpbehgncakaaGreat.Ml
open Go.Proofs.YtoffpbehgncakaaGreat.Av.AVal (av)

theorem Ll (l : List Pat) (g : FuncId) (caps : List AV) (p : Pat → Bool) (hl : l.length ≤ 1099511627776) (hp : ∀ x ∈ caps, Ap x) (hc : ∀ hp, caps.map (AV.Bu hp) = caps) (hg : ∀ x ∈ l, AH Tryz.prog g (av x :: caps) (.bool (p x))) :
  AH Tryz.prog 72 [.sl (l.map av), .fn g caps] (.int .i64 (indexOf l p)) := by
 refine Ci.F rfl (by simp; exact ⟨AQ l, Ap.fn hp⟩) (Ap.int _ _) ?_
 simp +contextual -dsimp only [↓SD, SU, simprocAttr, Ci, Aa]
 refine AB (X := Nat) (fun k => ⟨[(0, .sl (l.map av)), (1, .fn g caps), (7, .int .i64 l.length), (8, .int .i64 k)], []⟩) (fun k => k ≤ l.length ∧ (l.take k).all (fun x => !p x) = true) (fun k => l.length - k) 0 ⟨Nat.zero_le _, rfl⟩ (by simp +contextual -dsimp only [↓SD, SU, simprocAttr]) trivial ?_
 intro k ⟨hk, hpk⟩
 by_cases hlt : k < l.length
 ·have e := getD_map av l k .top hlt
  have C := hg l[k] (List.getElem_mem hlt)
  rw [Ed] at C
  simp +contextual -dsimp only [↓SD, SU, simprocAttr, Aa, e, Ed, hlt, hc]
  refine Ac _ C ?_
  simp +contextual -dsimp only [↓SD, SU, simprocAttr]
  refine ⟨fun h1 => by rw [JT hlt hpk h1], fun h1 => ⟨by omega, ?_⟩⟩
  exact Ai.le ⟨k + 1, ⟨⟨hlt, by rw [A5 _ hlt hpk, h1]; rfl⟩, (by first | omega | (simp only; omega))⟩, rfl⟩ (by simp +contextual -dsimp only [↓SD, SU, simprocAttr, Int.natCast_add]) trivial
 ·obtain rfl : k = l.length := by omega
  rw [List.take_length] at hpk
  simp +contextual -dsimp only [↓SD, SU, simprocAttr, Aa, Nat.lt_irrefl, Hm hpk]
theorem Jm (l : List Pat) (g : FuncId) (caps : List AV) (p : Pat → Bool) (hl : l.length ≤ 1099511627776) (hp : ∀ x ∈ caps, Ap x) (hc : ∀ hp, caps.map (AV.Bu hp) = caps) (hg : ∀ x ∈ l, AH Tryz.prog g (av x :: caps) (.bool (p x))) :
  AH Tryz.prog 35 [.sl (l.map av), .fn g caps] (.bool (l.any p)) := by
 refine B8.F rfl (by simp; exact ⟨AQ l, Ap.fn hp⟩) (Ap.bool _) ?_
 simp +contextual -dsimp only [↓SD, SU, simprocAttr, B8, hc]
 refine Ac _ (Ll l g caps p hl hp hc hg) ?_
 simp +contextual -dsimp only [↓SD, SU, simprocAttr, IW]

end Go.Proofs.YtoffpbehgncakaaGreat
set_option linter.unusedVariables false
set_option maxRecDepth 100000
namespace Go.Proofs.YtoffpbehgncakaaGreat
open Go.Proofs.YtoffpbehgncakaaGreat.Av

theorem JE : Tryz.prog.follows .mixedOrders = true := by kernel_rfl

def Ce : Ir Tryz.prog 112 [] [] 2 := ⟨_, _, Tryz.func112, JE, by kernel_rfl, AA [] Tryz.progTables (by conv => lhs; cbv) (by kernel_rfl)⟩
def B3 : Ir Tryz.prog 66 [] [] 2 := ⟨_, _, Tryz.func66, JE, by kernel_rfl, AA [] Tryz.progTables (by conv => lhs; cbv) (by kernel_rfl)⟩
end Go.Proofs.YtoffpbehgncakaaGreat
set_option linter.unusedVariables false
set_option linter.unusedSimpArgs false
set_option maxRecDepth 100000
namespace Go.Proofs.YtoffpbehgncakaaGreat
open Go.RowKit Go.Proofs.YtoffpbehgncakaaGreat.Av Go.Proofs.YtoffpbehgncakaaGreat.Ml
open Go.Proofs.YtoffpbehgncakaaGreat.Av.AVal (av)

theorem KV (l : List Dm) (g : FuncId) (caps : List AV) (p : Dm → Bool) (hl : l.length ≤ 1099511627776) (hp : ∀ x ∈ caps, Ap x) (hc : ∀ hp, caps.map (AV.Bu hp) = caps) (hg : ∀ x ∈ l, AH Tryz.prog g (av x :: caps) (.bool (p x))) :
  AH Tryz.prog 112 [.sl (l.map av), .fn g caps] (.int .i64 (indexOf l p)) := by
 refine Ce.F rfl (by simp; exact ⟨AQ l, Ap.fn hp⟩) (Ap.int _ _) ?_
 simp +contextual -dsimp (maxSteps := 2000000) only [↓SD, SU, simprocAttr, Ce, Aa]
 refine AB (X := Nat) (fun k => ⟨[(0, .sl (l.map av)), (1, .fn g caps), (7, .int .i64 l.length), (8, .int .i64 k)], []⟩) (fun k => k ≤ l.length ∧ (l.take k).all (fun x => !p x) = true) (fun k => l.length - k) 0 ⟨Nat.zero_le _, rfl⟩ (by simp +contextual -dsimp only [↓SD, SU, simprocAttr]) trivial ?_
 intro k ⟨hk, hpk⟩
 by_cases hlt : k < l.length
 ·have e := getD_map av l k .top hlt
  have C := hg l[k] (List.getElem_mem hlt)
  rw [DD] at C
  simp +contextual -dsimp (maxSteps := 2000000) only [↓SD, SU, simprocAttr, Aa, e, DD, hlt, hc]
  refine Ac _ C ?_
  simp +contextual -dsimp (maxSteps := 2000000) only [↓SD, SU, simprocAttr]
  refine ⟨fun h1 => by rw [JT hlt hpk h1], fun h1 => ⟨by omega, ?_⟩⟩
  exact Ai.le ⟨k + 1, ⟨⟨hlt, by rw [A5 _ hlt hpk, h1]; rfl⟩, (by first | omega | (simp only; omega))⟩, rfl⟩ (by simp +contextual -dsimp only [↓SD, SU, simprocAttr, Int.natCast_add]) trivial
 ·obtain rfl : k = l.length := by omega
  rw [List.take_length] at hpk
  simp +contextual -dsimp (maxSteps := 2000000) only [↓SD, SU, simprocAttr, Aa, Nat.lt_irrefl, Hm hpk]
theorem I5 (l : List Dm) (g : FuncId) (caps : List AV) (p : Dm → Bool) (hl : l.length ≤ 1099511627776) (hp : ∀ x ∈ caps, Ap x) (hc : ∀ hp, caps.map (AV.Bu hp) = caps) (hg : ∀ x ∈ l, AH Tryz.prog g (av x :: caps) (.bool (p x))) :
  AH Tryz.prog 66 [.sl (l.map av), .fn g caps] (.bool (l.any p)) := by
 refine B3.F rfl (by simp; exact ⟨AQ l, Ap.fn hp⟩) (Ap.bool _) ?_
 simp +contextual -dsimp (maxSteps := 2000000) only [↓SD, SU, simprocAttr, B3, hc]
 refine Ac _ (KV l g caps p hl hp hc hg) ?_
 simp +contextual -dsimp (maxSteps := 2000000) only [↓SD, SU, simprocAttr, IW]

end Go.Proofs.YtoffpbehgncakaaGreat
