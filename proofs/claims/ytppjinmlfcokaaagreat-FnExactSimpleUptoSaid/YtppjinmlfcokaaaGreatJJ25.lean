/-
 NODES OF RIGHT PROGRAMS: what the program's nodeOk tells, by abstract texts. Conditions: none.
-/
import Derived.Test.YtppjinmlfcokaaaGreatJJ23
import Derived.Test.YtppjinmlfcokaaaGreatJTyW
import Derived.Test.YtppjinmlfcokaaaGreatJJ20
import Derived.Test.YtppjinmlfcokaaaGreatProg
import Derived.Test.YtppjinmlfcokaaaGreatJAvDraw
import Derived.Test.YtppjinmlfcokaaaGreatJJ08
import Derived.Test.YtppjinmlfcokaaaGreatJGProg
set_option linter.unusedVariables false
set_option linter.unusedSimpArgs false
set_option maxRecDepth 100000
namespace Go.Proofs.YtppjinmlfcokaaaGreat
open Go.RowKit Go.Proofs.YtppjinmlfcokaaaGreat.Av Go.Proofs.YtppjinmlfcokaaaGreat.Ml
open Go.Proofs.YtppjinmlfcokaaaGreat.Av.AVal (av)

theorem Adw (k : Int) : Ak Tryz.prog 153 [.int .i64 k] (.int .i64 (AX k)) := by
 refine LL.F rfl (by simp; exact Bo _) (Bo _) ?_
 simp +contextual -dsimp (maxSteps := 2000000) only [↓SD, SU, simprocAttr, LL]
 (repeat' (first | intro _ | refine And.intro ?_ ?_))
 all_goals first | (simp [AX, *]; done) | (subst_vars; rfl)
theorem Yb (k : Int) : Ak Tryz.prog 132 [.int .i64 k] (.int .i64 (AX k)) := by
 refine J5.F rfl (by simp; exact Bo _) (Bo _) ?_
 simp +contextual -dsimp (maxSteps := 2000000) only [↓SD, SU, simprocAttr, J5]
 (repeat' (first | intro _ | refine And.intro ?_ ?_))
 all_goals first | (simp [AX, *]; done) | (subst_vars; rfl)
theorem kinds {k : Int} (h : 1 ≤ k ∧ k ≤ 19) : k = 1 ∨ k = 2 ∨ k = 3 ∨ k = 4 ∨ k = 5 ∨ k = 6 ∨ k = 7 ∨ k = 8 ∨ k = 9 ∨ k = 10 ∨ k = 11 ∨ k = 12 ∨ k = 13 ∨ k = 14 ∨ k = 15 ∨ k = 16 ∨ k = 17 ∨ k = 18 ∨ k = 19 := by omega

set_option maxHeartbeats 8000000 in
theorem Abe (nm : Node → Bool) (p : Program) (n : Node) (g : FuncId) (caps : List AV) (hpc : ∀ x ∈ caps, Ae x) (hc : ∀ hp, caps.map (AV.B7 hp) = caps) (hg : Ak Tryz.prog g (av n :: caps) (.bool (nm n)))
  (hl : p.nodes.length ≤ 4294967296) (hk : n.kids.length ≤ 4294967296) (hs : n.s.size ≤ 4294967296) (hq : n.Ai.length ≤ 4294967296) (hin : ∀ k ∈ n.kids, 0 ≤ k ∧ k < p.nodes.length) :
  Ak Tryz.prog 95 [av p, av n, .fn g caps] (.bool (A1 nm p.nodes n)) := by
 refine Dw.F rfl (by simp; exact ⟨AVal.clean p, AVal.clean n, Ae.fn hpc⟩) (Ae.bool _) ?_
 have CA := Adw n.kind
 rw [Ay] at hg
 by_cases hkk : 1 ≤ n.kind ∧ n.kind ≤ 19
 ·obtain ⟨kind, pos, nn, s, kids, Ai⟩ := n
  simp only at hk hs hq hin hkk CA hg
  rcases kinds hkk with rfl | rfl | rfl | rfl | rfl | rfl | rfl | rfl | rfl | rfl | rfl | rfl | rfl | rfl | rfl | rfl | rfl | rfl | rfl
  all_goals first | (rw [show AX 1 = 0 from rfl] at CA; have hA : AX 1 = 0 := rfl; clear hkk) | (rw [show AX 2 = 0 from rfl] at CA; have hA : AX 2 = 0 := rfl; clear hkk) | (rw [show AX 3 = 0 from rfl] at CA; have hA : AX 3 = 0 := rfl; clear hkk) | (rw [show AX 4 = -1 from rfl] at CA; have hA : AX 4 = -1 := rfl; clear hkk) | (rw [show AX 5 = 1 from rfl] at CA; have hA : AX 5 = 1 := rfl; clear hkk) | (rw [show AX 6 = 2 from rfl] at CA; have hA : AX 6 = 2 := rfl; clear hkk) | (rw [show AX 7 = 2 from rfl] at CA; have hA : AX 7 = 2 := rfl; clear hkk) | (rw [show AX 8 = 2 from rfl] at CA; have hA : AX 8 = 2 := rfl; clear hkk) | (rw [show AX 9 = 3 from rfl] at CA; have hA : AX 9 = 3 := rfl; clear hkk) | (rw [show AX 10 = 2 from rfl] at CA; have hA : AX 10 = 2 := rfl; clear hkk) | (rw [show AX 11 = 2 from rfl] at CA; have hA : AX 11 = 2 := rfl; clear hkk) | (rw [show AX 12 = 0 from rfl] at CA; have hA : AX 12 = 0 := rfl; clear hkk) | (rw [show AX 13 = -1 from rfl] at CA; have hA : AX 13 = -1 := rfl; clear hkk) | (rw [show AX 14 = 1 from rfl] at CA; have hA : AX 14 = 1 := rfl; clear hkk) | (rw [show AX 15 = 2 from rfl] at CA; have hA : AX 15 = 2 := rfl; clear hkk) | (rw [show AX 16 = 1 from rfl] at CA; have hA : AX 16 = 1 := rfl; clear hkk) | (rw [show AX 17 = 1 from rfl] at CA; have hA : AX 17 = 1 := rfl; clear hkk) | (rw [show AX 18 = 2 from rfl] at CA; have hA : AX 18 = 2 := rfl; clear hkk) | (rw [show AX 19 = 2 from rfl] at CA; have hA : AX 19 = 2 := rfl; clear hkk)
  case inr.inr.inr.inl =>
   rcases kids with _ | ⟨k0, _ | ⟨k1, ks⟩⟩
   case cons.nil =>
    obtain ⟨g0, g1⟩ := hin k0 (by simp)
    have g2 : k0.toNat < p.nodes.length := by omega
    have e := Lw p.nodes default g2
    rw [Ay] at e
    rcases Ai with _ | ⟨q0, qs⟩ <;>
    (simp +contextual -dsimp (maxSteps := 2000000) only [↓SD, SU, simprocAttr, Dw, Ay, Ad, A7, Aa, hc]
     refine Ab _ CA ?_
     simp +contextual -dsimp (maxSteps := 2000000) only [↓SD, SU, simprocAttr, Aa, g0, g1, g2, e]
     (repeat' (first | intro _ | refine And.intro ?_ ?_))
     all_goals first | omega | skip
     all_goals first | (refine Ab _ (Ix _ _ _ (by omega)) ?_; simp +contextual -dsimp (maxSteps := 2000000) only [↓SD, SU, simprocAttr, *]; (repeat' (first | intro _ | refine And.intro ?_ ?_))) | skip
     all_goals first | omega | (simp [A1, AH, AF, *]; done))
   all_goals
    rcases Ai with _ | ⟨q0, qs⟩ <;>
    (simp +contextual -dsimp (maxSteps := 2000000) only [↓SD, SU, simprocAttr, Dw, Ay, Ad, A7, Aa, hc]
     refine Ab _ CA ?_
     simp +contextual -dsimp (maxSteps := 2000000) only [↓SD, SU, simprocAttr, Aa]
     (repeat' (first | intro _ | refine And.intro ?_ ?_))
     all_goals first | omega | skip
     all_goals first | (refine Ab _ (Ix _ _ _ (by omega)) ?_; simp +contextual -dsimp (maxSteps := 2000000) only [↓SD, SU, simprocAttr, *, Aa]; (repeat' (first | intro _ | refine And.intro ?_ ?_))) | skip
     all_goals first | omega | (simp [A1, AH, AF, *]; done))
  case inr.inr.inr.inr.inr.inr.inr.inl =>
   cases hb : nm ⟨8, pos, nn, s, kids, Ai⟩ <;> rw [hb] at hg <;>
   rcases kids with _ | ⟨k0, ks⟩
   case false.cons | true.cons =>
    obtain ⟨g0, g1⟩ := hin k0 (by simp)
    have g2 : k0.toNat < p.nodes.length := by omega
    have e := Lw p.nodes default g2
    rw [Ay] at e
    rcases Ai with _ | ⟨q0, qs⟩ <;>
    (simp +contextual -dsimp (maxSteps := 2000000) only [↓SD, SU, simprocAttr, Dw, Ay, Ad, A7, Aa, hc]
     refine Ab _ CA ?_
     simp +contextual -dsimp (maxSteps := 2000000) only [↓SD, SU, simprocAttr, Aa, g0, g1, g2, e, hc]
     (repeat' (first | intro _ | refine And.intro ?_ ?_))
     all_goals first | omega | skip
     all_goals first | (subst_vars; refine Ab _ hg ?_; simp +contextual -dsimp (maxSteps := 2000000) only [↓SD, SU, simprocAttr, *, Aa]; (repeat' (first | intro _ | refine And.intro ?_ ?_))) | skip
     all_goals first | omega | (simp [A1, AH, AF, *]; done) | (simp [A1, AH, AF, *]; omega) | trace_state)
   all_goals
    rcases Ai with _ | ⟨q0, qs⟩ <;>
    (simp +contextual -dsimp (maxSteps := 2000000) only [↓SD, SU, simprocAttr, Dw, Ay, Ad, A7, Aa, hc]
     refine Ab _ CA ?_
     simp +contextual -dsimp (maxSteps := 2000000) only [↓SD, SU, simprocAttr, Aa, hc]
     (repeat' (first | intro _ | refine And.intro ?_ ?_))
     all_goals first | omega | skip
     all_goals first | (subst_vars; refine Ab _ hg ?_; simp +contextual -dsimp (maxSteps := 2000000) only [↓SD, SU, simprocAttr, *, Aa]; (repeat' (first | intro _ | refine And.intro ?_ ?_))) | skip
     all_goals first | omega | (simp [A1, AH, AF, *]; done))
  all_goals
   rcases Ai with _ | ⟨q0, qs⟩ <;>
   ((try simp only [List.length_cons] at hq)
    simp +contextual -dsimp (maxSteps := 2000000) only [↓SD, SU, simprocAttr, Dw, Ay, Ad, Aa, hc]
    refine Ab _ CA ?_
    simp +contextual -dsimp (maxSteps := 2000000) only [↓SD, SU, simprocAttr, Aa, hc]
    (repeat' (first | intro _ | refine And.intro ?_ ?_))
    all_goals first | omega | skip
    all_goals first | (subst_vars; refine Ab _ hg ?_; simp +contextual -dsimp (maxSteps := 2000000) only [↓SD, SU, simprocAttr, *]; (repeat' (first | intro _ | refine And.intro ?_ ?_))) | (refine Ab _ (EF _ _ _) ?_; simp +contextual -dsimp (maxSteps := 2000000) only [↓SD, SU, simprocAttr, *]; (repeat' (first | intro _ | refine And.intro ?_ ?_))) | (refine Ab _ XS ?_; simp +contextual -dsimp (maxSteps := 2000000) only [↓SD, SU, simprocAttr, *]; refine Ab _ (Gc opsL _ (by decide)) ?_; simp +contextual -dsimp (maxSteps := 2000000) only [↓SD, SU, simprocAttr, *]; (repeat' (first | intro _ | refine And.intro ?_ ?_))) | skip
    all_goals first | omega | (simp [A1, AH, AF, *]; done) | (have kne : kids ≠ [] := (fun h => by subst h; simp at *); simp [A1, hA, kne]; done) | (simp [A1, hA, *]; omega) | trace_state)
 ·obtain ⟨kind, pos, nn, s, kids, Ai⟩ := n
  simp only at hk hs hq hin hkk CA hg
  have c1 : ¬ kind = 1 := by omega
  have c2 : ¬ kind = 2 := by omega
  have c3 : ¬ kind = 3 := by omega
  have c4 : ¬ kind = 4 := by omega
  have c5 : ¬ kind = 5 := by omega
  have c6 : ¬ kind = 6 := by omega
  have c7 : ¬ kind = 7 := by omega
  have c8 : ¬ kind = 8 := by omega
  have c9 : ¬ kind = 9 := by omega
  have c10 : ¬ kind = 10 := by omega
  have c11 : ¬ kind = 11 := by omega
  have c12 : ¬ kind = 12 := by omega
  have c13 : ¬ kind = 13 := by omega
  have c14 : ¬ kind = 14 := by omega
  have c15 : ¬ kind = 15 := by omega
  have c16 : ¬ kind = 16 := by omega
  have c17 : ¬ kind = 17 := by omega
  have c18 : ¬ kind = 18 := by omega
  have c19 : ¬ kind = 19 := by omega
  have hA : AX kind = -1 := by simp [AX, c1, c2, c3, c4, c5, c6, c7, c8, c9, c10, c11, c12, c13, c14, c15, c16, c17, c18, c19]
  rw [hA] at CA
  simp +contextual -dsimp (maxSteps := 2000000) only [↓SD, SU, simprocAttr, Dw, Ay, Ad, Aa, hc]
  refine Ab _ CA ?_
  simp +contextual -dsimp (maxSteps := 2000000) only [↓SD, SU, simprocAttr, Aa, hc, c1, c2, c3, c4, c5, c6, c7, c8, c9, c10, c11, c12, c13, c14, c15, c16, c17, c18, c19]
  (repeat' (first | intro _ | refine And.intro ?_ ?_))
  all_goals first | omega | (simp [A1, hA, c1, c2, c3, c4, c5, c6, c7, c8, c9, c10, c11, c12, c13, c14, c15, c16, c17, c18, c19]; done) | trace_state
end Go.Proofs.YtppjinmlfcokaaaGreat
set_option linter.unusedVariables false
set_option maxRecDepth 100000
namespace Go.Proofs.YtppjinmlfcokaaaGreat
open Go.Proofs.YtppjinmlfcokaaaGreat.Av

theorem Nm : Tryz.prog.follows .mixedOrders = true := by kernel_rfl

def Dc : Ir Tryz.prog 103 [] [] 2 := ⟨_, _, Tryz.func103, Nm, by kernel_rfl, Ah [] Tryz.progTables (by conv => lhs; cbv) (by kernel_rfl)⟩
def Cz : Ir Tryz.prog 50 [] [] 2 := ⟨_, _, Tryz.func50, Nm, by kernel_rfl, Ah [] Tryz.progTables (by conv => lhs; cbv) (by kernel_rfl)⟩
end Go.Proofs.YtppjinmlfcokaaaGreat
set_option linter.unusedVariables false
set_option linter.unusedSimpArgs false
set_option maxRecDepth 100000
namespace Go.Proofs.YtppjinmlfcokaaaGreat
open Go.RowKit Go.Proofs.YtppjinmlfcokaaaGreat.Av Go.Proofs.YtppjinmlfcokaaaGreat.Ml
open Go.Proofs.YtppjinmlfcokaaaGreat.Av.AVal (av)

theorem NW (l : List Pat) (g : FuncId) (caps : List AV) (p : Pat → Bool) (hl : l.length ≤ 1099511627776) (hp : ∀ x ∈ caps, Ae x) (hc : ∀ hp, caps.map (AV.B7 hp) = caps) (hg : ∀ x ∈ l, Ak Tryz.prog g (av x :: caps) (.bool (p x))) :
  Ak Tryz.prog 103 [.sl (l.map av), .fn g caps] (.int .i64 (indexOf l p)) := by
 refine Dc.F rfl (by simp; exact ⟨Ao l, Ae.fn hp⟩) (Ae.int _ _) ?_
 simp +contextual -dsimp only [↓SD, SU, simprocAttr, Dc, Aa]
 refine Am (X := Nat) (fun k => ⟨[(0, .sl (l.map av)), (1, .fn g caps), (7, .int .i64 l.length), (8, .int .i64 k)], []⟩) (fun k => k ≤ l.length ∧ (l.take k).all (fun x => !p x) = true) (fun k => l.length - k) 0 ⟨Nat.zero_le _, rfl⟩ (by simp +contextual -dsimp only [↓SD, SU, simprocAttr]) trivial ?_
 intro k ⟨hk, hpk⟩
 by_cases hlt : k < l.length
 ·have e := getD_map av l k .top hlt
  have C := hg l[k] (List.getElem_mem hlt)
  rw [Cc] at C
  simp +contextual -dsimp only [↓SD, SU, simprocAttr, Aa, e, Cc, hlt, hc]
  refine Ab _ C ?_
  simp +contextual -dsimp only [↓SD, SU, simprocAttr]
  refine ⟨fun h1 => by rw [L6 hlt hpk h1], fun h1 => ⟨by omega, ?_⟩⟩
  exact Af.le ⟨k + 1, ⟨⟨hlt, by rw [A9 _ hlt hpk, h1]; rfl⟩, (by first | omega | (simp only; omega))⟩, rfl⟩ (by simp +contextual -dsimp only [↓SD, SU, simprocAttr, Int.natCast_add]) trivial
 ·obtain rfl : k = l.length := by omega
  rw [List.take_length] at hpk
  simp +contextual -dsimp only [↓SD, SU, simprocAttr, Aa, Nat.lt_irrefl, JK hpk]
theorem LA (l : List Pat) (g : FuncId) (caps : List AV) (p : Pat → Bool) (hl : l.length ≤ 1099511627776) (hp : ∀ x ∈ caps, Ae x) (hc : ∀ hp, caps.map (AV.B7 hp) = caps) (hg : ∀ x ∈ l, Ak Tryz.prog g (av x :: caps) (.bool (p x))) :
  Ak Tryz.prog 50 [.sl (l.map av), .fn g caps] (.bool (l.any p)) := by
 refine Cz.F rfl (by simp; exact ⟨Ao l, Ae.fn hp⟩) (Ae.bool _) ?_
 simp +contextual -dsimp only [↓SD, SU, simprocAttr, Cz, hc]
 refine Ab _ (NW l g caps p hl hp hc hg) ?_
 simp +contextual -dsimp only [↓SD, SU, simprocAttr, K1]

end Go.Proofs.YtppjinmlfcokaaaGreat
set_option linter.unusedVariables false
set_option maxRecDepth 100000
namespace Go.Proofs.YtppjinmlfcokaaaGreat
open Go.Proofs.YtppjinmlfcokaaaGreat.Av

theorem LS : Tryz.prog.follows .mixedOrders = true := by kernel_rfl

def CU : Ir Tryz.prog 156 [] [] 2 := ⟨_, _, Tryz.func156, LS, by kernel_rfl, Ah [] Tryz.progTables (by conv => lhs; cbv) (by kernel_rfl)⟩
def Cn : Ir Tryz.prog 96 [] [] 2 := ⟨_, _, Tryz.func96, LS, by kernel_rfl, Ah [] Tryz.progTables (by conv => lhs; cbv) (by kernel_rfl)⟩
end Go.Proofs.YtppjinmlfcokaaaGreat
set_option linter.unusedVariables false
set_option linter.unusedSimpArgs false
set_option maxRecDepth 100000
namespace Go.Proofs.YtppjinmlfcokaaaGreat
open Go.RowKit Go.Proofs.YtppjinmlfcokaaaGreat.Av Go.Proofs.YtppjinmlfcokaaaGreat.Ml
open Go.Proofs.YtppjinmlfcokaaaGreat.Av.AVal (av)

theorem NB (l : List BK) (g : FuncId) (caps : List AV) (p : BK → Bool) (hl : l.length ≤ 1099511627776) (hp : ∀ x ∈ caps, Ae x) (hc : ∀ hp, caps.map (AV.B7 hp) = caps) (hg : ∀ x ∈ l, Ak Tryz.prog g (av x :: caps) (.bool (p x))) :
  Ak Tryz.prog 156 [.sl (l.map av), .fn g caps] (.int .i64 (indexOf l p)) := by
 refine CU.F rfl (by simp; exact ⟨Ao l, Ae.fn hp⟩) (Ae.int _ _) ?_
 simp +contextual -dsimp (maxSteps := 2000000) only [↓SD, SU, simprocAttr, CU, Aa]
 refine Am (X := Nat) (fun k => ⟨[(0, .sl (l.map av)), (1, .fn g caps), (7, .int .i64 l.length), (8, .int .i64 k)], []⟩) (fun k => k ≤ l.length ∧ (l.take k).all (fun x => !p x) = true) (fun k => l.length - k) 0 ⟨Nat.zero_le _, rfl⟩ (by simp +contextual -dsimp only [↓SD, SU, simprocAttr]) trivial ?_
 intro k ⟨hk, hpk⟩
 by_cases hlt : k < l.length
 ·have e := getD_map av l k .top hlt
  have C := hg l[k] (List.getElem_mem hlt)
  rw [BJ] at C
  simp +contextual -dsimp (maxSteps := 2000000) only [↓SD, SU, simprocAttr, Aa, e, BJ, hlt, hc]
  refine Ab _ C ?_
  simp +contextual -dsimp (maxSteps := 2000000) only [↓SD, SU, simprocAttr]
  refine ⟨fun h1 => by rw [L6 hlt hpk h1], fun h1 => ⟨by omega, ?_⟩⟩
  exact Af.le ⟨k + 1, ⟨⟨hlt, by rw [A9 _ hlt hpk, h1]; rfl⟩, (by first | omega | (simp only; omega))⟩, rfl⟩ (by simp +contextual -dsimp only [↓SD, SU, simprocAttr, Int.natCast_add]) trivial
 ·obtain rfl : k = l.length := by omega
  rw [List.take_length] at hpk
  simp +contextual -dsimp (maxSteps := 2000000) only [↓SD, SU, simprocAttr, Aa, Nat.lt_irrefl, JK hpk]
theorem Ld (l : List BK) (g : FuncId) (caps : List AV) (p : BK → Bool) (hl : l.length ≤ 1099511627776) (hp : ∀ x ∈ caps, Ae x) (hc : ∀ hp, caps.map (AV.B7 hp) = caps) (hg : ∀ x ∈ l, Ak Tryz.prog g (av x :: caps) (.bool (p x))) :
  Ak Tryz.prog 96 [.sl (l.map av), .fn g caps] (.bool (l.any p)) := by
 refine Cn.F rfl (by simp; exact ⟨Ao l, Ae.fn hp⟩) (Ae.bool _) ?_
 simp +contextual -dsimp (maxSteps := 2000000) only [↓SD, SU, simprocAttr, Cn, hc]
 refine Ab _ (NB l g caps p hl hp hc hg) ?_
 simp +contextual -dsimp (maxSteps := 2000000) only [↓SD, SU, simprocAttr, K1]

end Go.Proofs.YtppjinmlfcokaaaGreat
