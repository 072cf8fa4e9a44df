/-
 TESTS OF PATHS, by abstract texts. Conditions: none.
-/
import Derived.Test.YteeiaaogmjbcjaaGreatUJ09
import Derived.Test.YteeiaaogmjbcjaaGreatUWords
import Derived.Test.YteeiaaogmjbcjaaGreatProg
import Derived.Test.YteeiaaogmjbcjaaGreatUAvDraw
set_option linter.unusedVariables false
set_option linter.unusedSimpArgs false
set_option maxRecDepth 100000
namespace Go.Proofs.YteeiaaogmjbcjaaGreat
open Go.RowKit Go.Proofs.YteeiaaogmjbcjaaGreat.Av Go.Proofs.YteeiaaogmjbcjaaGreat.Ml
open Go.Proofs.YteeiaaogmjbcjaaGreat.Av.AVal (av)

def K8 (k : Int) : Bool := !decide (k = 0) && !decide (k = 1)
theorem Yu (k : Int) : AJ Tryz.prog 79 [.int .i64 k] (.bool (K8 k)) := by
 refine HP.F rfl (by simp; exact E0 _) (Ap.bool _) ?_
 simp +contextual -dsimp only [↓SD, SU, simprocAttr, HP]
 (repeat' (first | intro _ | refine And.intro ?_ ?_))
 all_goals (simp [K8, *]; done)

theorem L4 (l : List Int) (hl : l.length ≤ 1099511627776) :
  AJ Tryz.prog 98 [.sl (l.map av), .fn 79 []] (.int .i64 (indexOf l K8)) := by
 refine Dx.F rfl (by simp; exact ⟨AD l, Ap.fn (by simp)⟩) (Ap.int _ _) ?_
 simp +contextual -dsimp only [↓SD, SU, simprocAttr, Dx]
 refine AG (X := Nat) (fun k => ⟨[(0, .sl (l.map av)), (1, .fn 79 []), (7, .int .i64 l.length), (8, .int .i64 k)], []⟩) (fun k => k ≤ l.length ∧ (l.take k).all (fun x => !K8 x) = true) (fun k => l.length - k) 0 ⟨Nat.zero_le _, rfl⟩ (by simp +contextual -dsimp only [↓SD, SU, simprocAttr, Aa]) trivial ?_
 intro k ⟨hk, hpk⟩
 by_cases hlt : k < l.length
 ·have e := getD_map (av (α := Int)) l k .top hlt
  simp +contextual -dsimp only [↓SD, SU, simprocAttr, Aa, e, Ae, hlt]
  refine Ag _ (Yu l[k]) ?_
  simp +contextual -dsimp only [↓SD, SU, simprocAttr]
  refine ⟨fun h1 => by rw [JI hlt hpk h1], fun h1 => ⟨by omega, ?_⟩⟩
  exact Ai.le ⟨k + 1, ⟨⟨hlt, by rw [Jb _ hlt hpk, h1]; rfl⟩, (by first | omega | (simp only; omega))⟩, rfl⟩ (by simp +contextual -dsimp only [↓SD, SU, simprocAttr, Int.natCast_add]) trivial
 ·obtain rfl : k = l.length := by omega
  rw [List.take_length] at hpk
  simp +contextual -dsimp only [↓SD, SU, simprocAttr, Aa, Nat.lt_irrefl, Hf hpk]

theorem JV (l : List Int) (hl : l.length ≤ 1099511627776) :
  AJ Tryz.prog 78 [.sl (l.map av), .fn 79 []] (.bool (l.any K8)) := by
 refine Da.F rfl (by simp; exact ⟨AD l, Ap.fn (by simp)⟩) (Ap.bool _) ?_
 simp +contextual -dsimp only [↓SD, SU, simprocAttr, Da]
 refine Ag _ (L4 l hl) ?_
 simp +contextual -dsimp only [↓SD, SU, simprocAttr, II]

end Go.Proofs.YteeiaaogmjbcjaaGreat
set_option linter.unusedVariables false
set_option linter.unusedSimpArgs false
set_option maxRecDepth 100000
namespace Go.Proofs.YteeiaaogmjbcjaaGreat
open Go.RowKit Go.Proofs.YteeiaaogmjbcjaaGreat.Av Go.Proofs.YteeiaaogmjbcjaaGreat.Ml
open Go.Proofs.YteeiaaogmjbcjaaGreat.Av.AVal (av)

def O9 (a : Ask) : Bool :=
 if a.kind = 3 then decide (a.s = bs []) && !a.has && (decide (-4611686018427387903 ≤ a.n) && decide (a.n ≤ 4611686018427387903))
 else if a.kind = 6 ∨ a.kind = 5 then decide (a.s = bs []) && !a.has && decide (a.n = 0)
 else if a.kind = 4 then decide (a.n = 0) && El a.s (if a.has then 1 else 0) true
 else false
def Hk (a : Ask) (i n : Int) : Bool :=
 if a.kind = 0 then decide (-1 ≤ a.arm) && decide (a.path.length = 0) && decide (a.n = 0) && decide (a.s = bs []) && !a.has && decide (a.yes = 0) && decide (a.no = 0)
 else !a.path.any K8 && O9 a && decide (a.arm = 0) && (decide (i + 1 ≤ a.yes) && decide (a.yes ≤ n - 1)) && (decide (i + 1 ≤ a.no) && decide (a.no ≤ n - 1))

set_option maxHeartbeats 2000000 in
theorem Aah (a : Ask) (i n : Int) (hl : a.path.length ≤ 1099511627776) (hs : a.s.size ≤ 1099511627776) (h0 : 0 ≤ i) (h1 : i < n) (h2 : n ≤ 1048576) : AJ Tryz.prog 48 [av a, .int .i64 i, .int .i64 n] (.bool (Hk a i n)) := by
 refine Jr.F rfl (by simp; exact ⟨AVal.clean a, E0 _, E0 _⟩) (Ap.bool _) ?_
 simp +contextual -dsimp only [↓SD, SU, simprocAttr, Jr, JP]
 obtain ⟨arm, path, kind, n', t, has, yes, no⟩ := a
 simp only at hl hs ⊢
 have C := JV path hl
 cases hp : path.any K8
 case true =>
  rw [hp] at C
  refine Ag _ C ?_
  simp +contextual -dsimp only [↓SD, SU, simprocAttr]
  by_cases hk : kind = 0
  ·have : ¬ path = [] := fun e => by rw [e] at hp; simp at hp
   simp [Hk, hk, this]
  ·simp [Hk, hk, hp]
 case false =>
  rw [hp] at C
  refine Ag _ C ?_
  simp +contextual -dsimp only [↓SD, SU, simprocAttr, Aa]
  (repeat' (first | intro _ | refine And.intro ?_ ?_))
  all_goals first | omega | skip
  all_goals first | (refine Ag _ (Ec _ _ _) ?_; simp +contextual -dsimp only [↓SD, SU, simprocAttr, *]; (repeat' (first | intro _ | refine And.intro ?_ ?_))) | (refine Ag _ (E3 _ _ _ hs) ?_; simp +contextual -dsimp only [↓SD, SU, simprocAttr, *]; (repeat' (first | intro _ | refine And.intro ?_ ?_))) | skip
  all_goals first | omega | skip
  all_goals first | (refine Ag _ (Ec _ _ _) ?_; simp +contextual -dsimp only [↓SD, SU, simprocAttr, *]; (repeat' (first | intro _ | refine And.intro ?_ ?_))) | (refine Ag _ (E3 _ _ _ hs) ?_; simp +contextual -dsimp only [↓SD, SU, simprocAttr, *]; (repeat' (first | intro _ | refine And.intro ?_ ?_))) | skip
  all_goals first | omega | skip
  all_goals first | (refine Ag _ (Ec _ _ _) ?_; simp +contextual -dsimp only [↓SD, SU, simprocAttr, *]; (repeat' (first | intro _ | refine And.intro ?_ ?_))) | (refine Ag _ (E3 _ _ _ hs) ?_; simp +contextual -dsimp only [↓SD, SU, simprocAttr, *]; (repeat' (first | intro _ | refine And.intro ?_ ?_))) | skip
  all_goals first | omega | skip
  all_goals first | (simp [Hk, O9, *]; done) | (simp_all [Hk, O9]; done)

end Go.Proofs.YteeiaaogmjbcjaaGreat
set_option linter.unusedVariables false
set_option linter.unusedSimpArgs false
set_option maxRecDepth 100000
namespace Go.Proofs.YteeiaaogmjbcjaaGreat
open Go.RowKit Go.Proofs.YteeiaaogmjbcjaaGreat.Av Go.Proofs.YteeiaaogmjbcjaaGreat.Ml
open Go.Proofs.YteeiaaogmjbcjaaGreat.Av.AVal (av)

def E4 (l : List Ask) : Bool := allI (fun i => Hk (l.getD i default) i l.length) l.length && (decide (1 ≤ (l.length : Int)) && decide ((l.length : Int) ≤ 400))
theorem Aaf {l : List Ask} {k : Nat} (h : k < l.length) (hb : Hk l[k] k l.length = false) : E4 l = false := by
 unfold E4; rw [NR h (by rw [B5 h]; exact hb)]; rfl
theorem PS {l : List Ask} (h : ∀ k (hk : k < l.length), Hk l[k] k l.length = true) : E4 l = (decide (1 ≤ (l.length : Int)) && decide ((l.length : Int) ≤ 400)) := by
 unfold E4; rw [Yw (fun i hi => by rw [B5 hi]; exact h i hi)]; rfl
theorem KF {l : List Ask} (h : E4 l = true) : (∀ k (hk : k < l.length), Hk l[k] k l.length = true) ∧ 1 ≤ l.length ∧ l.length ≤ 400 := by
 unfold E4 at h
 simp only [Bool.and_eq_true, decide_eq_true_eq, NQ] at h
 exact ⟨fun k hk => by have := h.1 k hk; rwa [B5 hk] at this, by omega, by omega⟩
theorem Ys {l : List Ask} (hx : AE.bulk l ≤ 1048576) (k : Nat) (hk : k < l.length) : l[k].path.length ≤ 1048576 ∧ l[k].s.size ≤ 1048576 := by
 have h1 := IQ (List.getElem_mem hk)
 have h2 : AE.bulk l[k] = AE.bulk l[k].arm + AE.bulk l[k].path + AE.bulk l[k].kind + AE.bulk l[k].n + AE.bulk l[k].s + AE.bulk l[k].has + AE.bulk l[k].yes + AE.bulk l[k].no + 1 := rfl
 have h3 := BJ l[k].path
 have h4 : AE.bulk l[k].s = l[k].s.size + 1 := rfl
 omega

theorem Jv (l : List Ask) (hx : AE.bulk l ≤ 1048576) : AJ Tryz.prog 16 [.agg [.sl (l.map av)]] (.bool (E4 l)) := by
 have hl := BJ l
 refine IG.F rfl (by simp; exact Ap.agg (by simp; exact AD l)) (Ap.bool _) ?_
 simp +contextual -dsimp only [↓SD, SU, simprocAttr, IG, Aa]
 refine AG (X := Nat) (fun k => ⟨[(1, .obj [.sl (l.map av)]), (6, .sl (l.map av)), (7, .int .i64 l.length), (8, .int .i64 k)], []⟩) (fun k => k ≤ l.length ∧ ∀ i (hi : i < l.length), i < k → Hk l[i] i l.length = true) (fun k => l.length - k) 0 ⟨Nat.zero_le _, fun i _ h => absurd h (by omega)⟩ (by simp +contextual -dsimp only [↓SD, SU, simprocAttr]) trivial ?_
 intro k ⟨hk, hp⟩
 by_cases hlt : k < l.length
 ·have e := getD_map av l k .top hlt
  have hb := Ys hx k hlt
  have C := Aah l[k] k l.length (by omega) (by omega) (by omega) (by omega) (by omega)
  rw [JP] at C
  simp +contextual -dsimp only [↓SD, SU, simprocAttr, Aa, hlt, e, JP]
  intro v
  refine Ag _ C ?_
  simp +contextual -dsimp only [↓SD, SU, simprocAttr]
  refine ⟨fun h => by rw [Aaf hlt h], fun h => ⟨by omega, Ai.le ⟨k + 1, ⟨⟨hlt, fun i hi hik => ?_⟩, (by first | omega | (simp only; omega))⟩, rfl⟩ (by simp +contextual -dsimp only [↓SD, SU, simprocAttr, Int.natCast_add]) trivial⟩⟩
  rcases Nat.lt_succ_iff_lt_or_eq.1 hik with h1 | rfl
  ·exact hp i hi h1
  ·exact h
 ·obtain rfl : k = l.length := by omega
  simp +contextual -dsimp only [↓SD, SU, simprocAttr, Aa, Nat.lt_irrefl]
  refine Ag _ (Ec _ _ _) ?_
  simp +contextual -dsimp only [↓SD, SU, simprocAttr, PS (fun i hi => hp i hi hi)]

end Go.Proofs.YteeiaaogmjbcjaaGreat
set_option linter.unusedVariables false
set_option maxRecDepth 100000
namespace Go.Proofs.YteeiaaogmjbcjaaGreat
open Go.Proofs.YteeiaaogmjbcjaaGreat.Av

theorem QG : Tryz.prog.follows .mixedOrders = true := by kernel_rfl

def GX : Ir Tryz.prog 18 [(27, 7777), (29, 7777)] [9999] 1 := ⟨_, _, Tryz.func18, QG, by kernel_rfl, Az [] Tryz.progTables (by conv => lhs; cbv) (by kernel_rfl)⟩
end Go.Proofs.YteeiaaogmjbcjaaGreat
set_option linter.unusedVariables false
set_option maxRecDepth 100000
