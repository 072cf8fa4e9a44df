/-
 A CONTRACT WHOSE RESULT LIES IN ROWS OF ITS OWN, as one whose result is read for Oc. Conditions: none.
-/
import Derived.Test.YteeiaaogmjbcjaaGreatUAvSimp
import Derived.Test.YteeiaaogmjbcjaaGreatProg
import Derived.Test.YteeiaaogmjbcjaaGreatUAvDraw
import Derived.Test.YteeiaaogmjbcjaaGreatUJ13
import Derived.Test.YteeiaaogmjbcjaaGreatUJ09
set_option linter.unusedVariables false
namespace Go.Proofs.YteeiaaogmjbcjaaGreat.Av
open Go.RowKit

theorem U7 {P : Go.Program} {f : FuncId} {args : List AV} (h : AJ P f args .Au) : AJ P f args (.sl []) := ⟨h.1, h.2.1, fun S w vs h1 h2 => (h.2.2 S w vs h1 h2).mono fun e w' ⟨v, he, hv, hb⟩ => ⟨v, he, by cases hv; exact .sl0 none 0 (Nat.zero_le _), hb⟩⟩
theorem Q5 {S : Nat → Prop} {w : World} {μ : Mu} {vs : List Value} {a b : List AV} (h : VRs S w μ vs (a ++ .Au :: b)) : VRs S w μ vs (a ++ .sl [] :: b) := by
 refine ⟨by rw [h.1]; simp, fun i v x p q => ?_⟩
 by_cases hi : i = a.length
 ·subst hi
  rw [List.getElem?_append_right (Nat.le_refl _), Nat.sub_self] at q
  cases q
  have h0 := h.2 a.length v .Au p (by rw [List.getElem?_append_right (Nat.le_refl _), Nat.sub_self]; rfl)
  cases h0
  exact .sl0 none 0 (Nat.zero_le _)
 ·refine h.2 i v x p ?_
  rw [List.getElem?_append] at q ⊢
  split
  ·rename_i hlt; rw [if_pos hlt] at q; exact q
  ·rename_i hlt
   rw [if_neg hlt] at q
   obtain ⟨k, hk⟩ : ∃ k, i - a.length = k + 1 := ⟨i - a.length - 1, by omega⟩
   rw [hk] at q ⊢
   exact q
theorem Jx {P : Go.Program} {f : FuncId} {a b : List AV} {r : AV} (h : AJ P f (a ++ .sl [] :: b) r) : AJ P f (a ++ .Au :: b) r := ⟨h.1, fun x hx => by
 rcases List.mem_append.1 hx with hx | hx
 ·exact h.2.1 x (List.mem_append.2 (.inl hx))
 ·rcases List.mem_cons.1 hx with rfl | hx
  ·exact Ap.Au
  ·exact h.2.1 x (List.mem_append.2 (.inr (List.mem_cons_of_mem _ hx))), fun S w vs h1 h2 => h.2.2 S w vs h1 (Q5 h2)⟩
end Go.Proofs.YteeiaaogmjbcjaaGreat.Av
set_option linter.unusedVariables false
set_option maxRecDepth 100000
namespace Go.Proofs.YteeiaaogmjbcjaaGreat
open Go.Proofs.YteeiaaogmjbcjaaGreat.Av

theorem Bb : Tryz.prog.follows .mixedOrders = true := by kernel_rfl

def DN : Ir Tryz.prog 115 [] [9999] 2 := ⟨_, _, Tryz.func115, Bb, by kernel_rfl, Az [] Tryz.progTables (by conv => lhs; cbv) (by kernel_rfl)⟩
def Ep : Ir Tryz.prog 136 [] [9999] 1 := ⟨_, _, Tryz.func136, Bb, by kernel_rfl, Az [] Tryz.progTables (by conv => lhs; cbv) (by kernel_rfl)⟩
def Jl : Ir Tryz.prog 112 [(6, 7777)] [9999] 2 := ⟨_, _, Tryz.func112, Bb, by kernel_rfl, Az [] Tryz.progTables (by conv => lhs; cbv) (by kernel_rfl)⟩
def Fa : Ir Tryz.prog 138 [(6, 7777), (9, 7777)] [9999] 2 := ⟨_, _, Tryz.func138, Bb, by kernel_rfl, Az [] Tryz.progTables (by conv => lhs; cbv) (by kernel_rfl)⟩
def Hu : Ir Tryz.prog 139 [(13, 7777), (7, 7777)] [9999] 2 := ⟨_, _, Tryz.func139, Bb, by kernel_rfl, Az [] Tryz.progTables (by conv => lhs; cbv) (by kernel_rfl)⟩
def Gg : Ir Tryz.prog 160 [(4, 7777), (9, 7777)] [9999] 1 := ⟨_, _, Tryz.func160, Bb, by kernel_rfl, Az [] Tryz.progTables (by conv => lhs; cbv) (by kernel_rfl)⟩
def DM : Ir Tryz.prog 152 [(11,11)] [9999] 2 := ⟨_, _, Tryz.func152, Bb, by kernel_rfl, Az [] Tryz.progTables (by conv => lhs; cbv) (by kernel_rfl)⟩
def Gh : Ir Tryz.prog 161 [(10, 7777), (5, 7777), (7, 7777)] [9999] 1 := ⟨_, _, Tryz.func161, Bb, by kernel_rfl, Az [] Tryz.progTables (by conv => lhs; cbv) (by kernel_rfl)⟩
def Fc : Ir Tryz.prog 141 [(6, 7777), (8, 7777)] [9999] 2 := ⟨_, _, Tryz.func141, Bb, by kernel_rfl, Az [] Tryz.progTables (by conv => lhs; cbv) (by kernel_rfl)⟩
def Fj : Ir Tryz.prog 150 [(32, 7777), (7, 7777)] [9999] 1 := ⟨_, _, Tryz.func150, Bb, by kernel_rfl, Az [] Tryz.progTables (by conv => lhs; cbv) (by kernel_rfl)⟩
def FQ : Ir Tryz.prog 163 [(22, 7777), (5, 7777)] [9999] 1 := ⟨_, _, Tryz.func163, Bb, by kernel_rfl, Az [] Tryz.progTables (by conv => lhs; cbv) (by kernel_rfl)⟩
def Gi : Ir Tryz.prog 153 [(6, 7777)] [9999] 1 := ⟨_, _, Tryz.func153, Bb, by kernel_rfl, Az [] Tryz.progTables (by conv => lhs; cbv) (by kernel_rfl)⟩
def FT : Ir Tryz.prog 142 [(4, 7777), (8, 7777)] [9999] 1 := ⟨_, _, Tryz.func142, Bb, by kernel_rfl, Az [] Tryz.progTables (by conv => lhs; cbv) (by kernel_rfl)⟩
def Jm : Ir Tryz.prog 154 [(15, 7777)] [9999] 2 := ⟨_, _, Tryz.func154, Bb, by kernel_rfl, Az [] Tryz.progTables (by conv => lhs; cbv) (by kernel_rfl)⟩
def Hw : Ir Tryz.prog 162 [] [9999] 2 := ⟨_, _, Tryz.func162, Bb, by kernel_rfl, Az [] Tryz.progTables (by conv => lhs; cbv) (by kernel_rfl)⟩
def Iq : Ir Tryz.prog 143 [] [9999] 4 := ⟨_, _, Tryz.func143, Bb, by kernel_rfl, Az [] Tryz.progTables (by conv => lhs; cbv) (by kernel_rfl)⟩
end Go.Proofs.YteeiaaogmjbcjaaGreat
set_option linter.unusedVariables false
set_option maxRecDepth 100000
namespace Go.Proofs.YteeiaaogmjbcjaaGreat
open Go.Proofs.YteeiaaogmjbcjaaGreat.Av

theorem Ch : Tryz.prog.follows .mixedOrders = true := by kernel_rfl

def FU : Ir Tryz.prog 128 [] [] 3 := ⟨_, _, Tryz.func128, Ch, by kernel_rfl, Az [] Tryz.progTables (by conv => lhs; cbv) (by kernel_rfl)⟩
def Gj : Ir Tryz.prog 129 [] [9999] 2 := ⟨_, _, Tryz.func129, Ch, by kernel_rfl, Az [] Tryz.progTables (by conv => lhs; cbv) (by kernel_rfl)⟩
def HD : Ir Tryz.prog 134 [] [9999] 2 := ⟨_, _, Tryz.func134, Ch, by kernel_rfl, Az [] Tryz.progTables (by conv => lhs; cbv) (by kernel_rfl)⟩
def D8 : Ir Tryz.prog 131 [] [] 1 := ⟨_, _, Tryz.func131, Ch, by kernel_rfl, Az [] Tryz.progTables (by conv => lhs; cbv) (by kernel_rfl)⟩
def It : Ir Tryz.prog 132 [] [9999] 2 := ⟨_, _, Tryz.func132, Ch, by kernel_rfl, Az [] Tryz.progTables (by conv => lhs; cbv) (by kernel_rfl)⟩
def HH : Ir Tryz.prog 148 [] [] 1 := ⟨_, _, Tryz.func148, Ch, by kernel_rfl, Az [] Tryz.progTables (by conv => lhs; cbv) (by kernel_rfl)⟩
def HI : Ir Tryz.prog 133 [] [9999] 1 := ⟨_, _, Tryz.func133, Ch, by kernel_rfl, Az [] Tryz.progTables (by conv => lhs; cbv) (by kernel_rfl)⟩
def FW : Ir Tryz.prog 135 [] [] 1 := ⟨_, _, Tryz.func135, Ch, by kernel_rfl, Az [] Tryz.progTables (by conv => lhs; cbv) (by kernel_rfl)⟩
def Iy : Ir Tryz.prog 111 [(105, 7777), (115, 7777), (153, 7777), (49, 7777)] [9999] 1 := ⟨_, _, Tryz.func111, Ch, by kernel_rfl, Az [] Tryz.progTables (by conv => lhs; cbv) (by kernel_rfl)⟩
end Go.Proofs.YteeiaaogmjbcjaaGreat
set_option linter.unusedVariables false
set_option maxRecDepth 100000
namespace Go.Proofs.YteeiaaogmjbcjaaGreat
open Go.Proofs.YteeiaaogmjbcjaaGreat.Av

theorem Jw : Tryz.prog.follows .mixedOrders = true := by kernel_rfl

def Iw : Ir Tryz.prog 158 [] [] 1 := ⟨_, _, Tryz.func158, Jw, by kernel_rfl, Az [] Tryz.progTables (by conv => lhs; cbv) (by kernel_rfl)⟩
def Jn : Ir Tryz.prog 149 [(6,6)] [] 1 := ⟨_, _, Tryz.func149, Jw, by kernel_rfl, Az [] Tryz.progTables (by conv => lhs; cbv) (by kernel_rfl)⟩
end Go.Proofs.YteeiaaogmjbcjaaGreat
set_option linter.unusedVariables false
set_option maxRecDepth 100000
namespace Go.Proofs.YteeiaaogmjbcjaaGreat
open Go.Proofs.YteeiaaogmjbcjaaGreat.Av

theorem LH : Tryz.prog.follows .mixedOrders = true := by kernel_rfl

def Er : Ir Tryz.prog 83 [] [] 1 := ⟨_, _, Tryz.func83, LH, by kernel_rfl, Az [] Tryz.progTables (by conv => lhs; cbv) (by kernel_rfl)⟩
def HJ : Ir Tryz.prog 52 [] [] 1 := ⟨_, _, Tryz.func52, LH, by kernel_rfl, Az [] Tryz.progTables (by conv => lhs; cbv) (by kernel_rfl)⟩
end Go.Proofs.YteeiaaogmjbcjaaGreat
set_option linter.unusedVariables false
set_option linter.unusedSimpArgs false
set_option maxRecDepth 100000
namespace Go.Proofs.YteeiaaogmjbcjaaGreat
open Go.RowKit Go.Proofs.YteeiaaogmjbcjaaGreat.Av Go.Proofs.YteeiaaogmjbcjaaGreat.Ml
open Go.Proofs.YteeiaaogmjbcjaaGreat.Av.AVal (av)

theorem Kn (k : Nat) : k ≤ 9223372036854775808 → AJ Tryz.prog 83 [.int .i64 (-(k : Int))] (.str (L2 k)) := by
 induction k using Nat.strongRecOn with
 | _ k ih =>
  intro hk
  refine Er.F rfl (by simp; exact E0 _) (Ap.str _) ?_
  by_cases h10 : k < 10
  ·have h1 : -10 < -(k : Int) := by omega
   have h2 : (48 : Int) - -(k : Int) = ((48 + k : Nat) : Int) := by omega
   rw [U1 h10]
   simp +contextual -dsimp only [↓SD, SU, Nat.reduceAdd, Nat.reduceBEq, Nat.reduceEqDiff, Nat.reduceLeDiff, Nat.reduceLT, Nat.reduceSub, ↓reduceIte, reduceCtorEq, Int.reduceToNat, Int.reduceEq, Int.reduceLT, Int.reduceLE, Int.reduceNeg, Int.reduceAdd, Int.reduceSub, Er, h1]
   refine ⟨by omega, by omega, ?_⟩
   refine NI _ _ [UInt8.ofNat (48 + k)] rfl (by rw [List.map_cons, List.map_nil, Xh _ (by omega), ← h2]) ?_
   simp +contextual -dsimp only [↓SD, SU, Nat.reduceAdd, Nat.reduceBEq, Nat.reduceEqDiff, Nat.reduceLeDiff, Nat.reduceLT, Nat.reduceSub, ↓reduceIte, reduceCtorEq, Int.reduceToNat]
  ·have h1 : ¬ -10 < -(k : Int) := by omega
   have h2 : (-(k : Int)).tdiv 10 = -((k / 10 : Nat) : Int) := by rw [Int.neg_tdiv, Int.tdiv_eq_ediv_of_nonneg (by omega)]; rfl
   have h3 : (-(k : Int)).tmod 10 = -((k % 10 : Nat) : Int) := by rw [Int.neg_tmod, Int.tmod_eq_emod_of_nonneg (by omega)]; rfl
   have h4 : (48 : Int) - -((k % 10 : Nat) : Int) = ((48 + k % 10 : Nat) : Int) := by omega
   have C := ih (k / 10) (by omega) (by omega)
   have hs := Mc (k / 10) (by omega)
   rw [U2 h10]
   simp +contextual -dsimp only [↓SD, SU, Nat.reduceAdd, Nat.reduceBEq, Nat.reduceEqDiff, Nat.reduceLeDiff, Nat.reduceLT, Nat.reduceSub, ↓reduceIte, reduceCtorEq, Int.reduceToNat, Int.reduceEq, Int.reduceLT, Int.reduceLE, Int.reduceNeg, Int.reduceAdd, Int.reduceSub, Er, h1, h2, h3]
   refine ⟨by omega, ?_⟩
   refine Ag _ C ?_
   simp +contextual -dsimp only [↓SD, SU, Nat.reduceAdd, Nat.reduceBEq, Nat.reduceEqDiff, Nat.reduceLeDiff, Nat.reduceLT, Nat.reduceSub, ↓reduceIte, reduceCtorEq, Int.reduceToNat, Int.reduceEq, Int.reduceLT, Int.reduceLE, Int.reduceNeg, Int.reduceAdd, Int.reduceSub, h3, h4]
   refine ⟨by omega, by omega, by omega, ?_⟩
   refine NI _ _ [UInt8.ofNat (48 + k % 10)] rfl (by rw [List.map_cons, List.map_nil, Xh _ (by omega)]) ?_
   simp +contextual -dsimp only [↓SD, SU, Nat.reduceAdd, Nat.reduceBEq, Nat.reduceEqDiff, Nat.reduceLeDiff, Nat.reduceLT, Nat.reduceSub, ↓reduceIte, reduceCtorEq, Int.reduceToNat]
   have h5 : (⟨[UInt8.ofNat (48 + k % 10)].toArray⟩ : ByteArray).size = 1 := rfl
   unfold maxLen; omega
theorem F9 (n : Int) (h : -9223372036854775808 ≤ n ∧ n ≤ 9223372036854775807) : (IntKind.i64.wrap (n * 2) / 2 = n) ↔ (-4611686018427387904 ≤ n ∧ n ≤ 4611686018427387903) := by
 rw [IntKind.wrap_i64]
 omega
theorem Rb (n : Int) (h : -9223372036854775808 ≤ n ∧ n ≤ 9223372036854775807) : AJ Tryz.prog 66 [.int .i64 n] (.int .i64 (IntKind.i64.wrap (n * 2) / 2)) := by
 refine Kp.F rfl (by simp; exact E0 _) (E0 _) ?_
 have e1 : min 1 IntKind.i64.bits = 1 := rfl
 have e2 : ∀ x : Int, x.fdiv (2 ^ 1) = x / 2 := fun x => by rw [Int.fdiv_eq_ediv_of_nonneg _ (by decide)]; rfl
 have e3 : n * 2 ^ 1 = n * 2 := rfl
 simp +contextual -dsimp only [↓SD, SU, Nat.reduceAdd, Nat.reduceBEq, Nat.reduceEqDiff, Nat.reduceLeDiff, Nat.reduceLT, Nat.reduceSub, ↓reduceIte, reduceCtorEq, Int.reduceToNat, Int.reduceEq, Int.reduceLT, Int.reduceLE, Int.reduceNeg, Int.reduceAdd, Int.reduceSub, Kp, e1, e2, e3]
 rw [IntKind.wrap_i64]
 omega
theorem FI (n : Int) (hn : -9223372036854775808 ≤ n ∧ n ≤ 9223372036854775807) : AJ Tryz.prog 52 [.int .i64 n] (.str (Jc n)) := by
 refine HJ.F rfl (by simp; exact E0 _) (Ap.str _) ?_
 have C := Rb n hn
 have W := F9 n hn
 simp +contextual -dsimp only [↓SD, SU, Nat.reduceAdd, Nat.reduceBEq, Nat.reduceEqDiff, Nat.reduceLeDiff, Nat.reduceLT, Nat.reduceSub, ↓reduceIte, reduceCtorEq, Int.reduceToNat, Int.reduceEq, Int.reduceLT, Int.reduceLE, Int.reduceNeg, Int.reduceAdd, Int.reduceSub, HJ]
 refine Ag _ C ?_
 by_cases hin : -4611686018427387904 ≤ n ∧ n ≤ 4611686018427387903
 ·have hw := W.2 hin
  by_cases h0 : n < 0
  ·have hS : Jc n = ⟨#[45]⟩ ++ L2 (-n).toNat := by unfold Jc; rw [if_pos hin, if_pos h0]
   obtain ⟨k, rfl⟩ : ∃ k : Nat, n = -(k : Int) := ⟨(-n).toNat, by omega⟩
   have hs := Mc k (by omega)
   have hk : (-(-(k : Int))).toNat = k := by omega
   rw [hS, hk]
   simp +contextual -dsimp only [↓SD, SU, Nat.reduceAdd, Nat.reduceBEq, Nat.reduceEqDiff, Nat.reduceLeDiff, Nat.reduceLT, Nat.reduceSub, ↓reduceIte, reduceCtorEq, Int.reduceToNat, Int.reduceEq, Int.reduceLT, Int.reduceLE, Int.reduceNeg, Int.reduceAdd, Int.reduceSub, hw, h0]
   refine Ag _ (Kn k (by omega)) ?_
   have hb : bs [45] = (⟨#[45]⟩ : ByteArray) := rfl
   simp +contextual -dsimp only [↓SD, SU, Nat.reduceAdd, Nat.reduceBEq, Nat.reduceEqDiff, Nat.reduceLeDiff, Nat.reduceLT, Nat.reduceSub, ↓reduceIte, reduceCtorEq, Int.reduceToNat, Int.reduceEq, Int.reduceLT, Int.reduceLE, Int.reduceNeg, Int.reduceAdd, Int.reduceSub, hb]
   have h1 : (⟨#[45]⟩ : ByteArray).size = 1 := rfl
   unfold maxLen; omega
  ·have hS : Jc n = L2 n.toNat := by unfold Jc; rw [if_pos hin, if_neg h0]
   obtain ⟨k, rfl⟩ : ∃ k : Nat, n = (k : Int) := ⟨n.toNat, by omega⟩
   rw [hS, Int.toNat_natCast]
   simp +contextual -dsimp only [↓SD, SU, Nat.reduceAdd, Nat.reduceBEq, Nat.reduceEqDiff, Nat.reduceLeDiff, Nat.reduceLT, Nat.reduceSub, ↓reduceIte, reduceCtorEq, Int.reduceToNat, Int.reduceEq, Int.reduceLT, Int.reduceLE, Int.reduceNeg, Int.reduceAdd, Int.reduceSub, hw, h0]
   refine ⟨by omega, ?_⟩
   refine Ag _ (Kn k (by omega)) ?_
   simp +contextual -dsimp only [↓SD, SU, Nat.reduceAdd, Nat.reduceBEq, Nat.reduceEqDiff, Nat.reduceLeDiff, Nat.reduceLT, Nat.reduceSub, ↓reduceIte, reduceCtorEq, Int.reduceToNat, Int.reduceEq, Int.reduceLT, Int.reduceLE, Int.reduceNeg, Int.reduceAdd, Int.reduceSub]
 ·have hw : ¬ IntKind.i64.wrap (n * 2) / 2 = n := fun h => hin (W.1 h)
  have hS : Jc n = ⟨#[]⟩ := by unfold Jc; rw [if_neg hin]
  rw [hS]
  simp +contextual -dsimp only [↓SD, SU, Nat.reduceAdd, Nat.reduceBEq, Nat.reduceEqDiff, Nat.reduceLeDiff, Nat.reduceLT, Nat.reduceSub, ↓reduceIte, reduceCtorEq, Int.reduceToNat, Int.reduceEq, Int.reduceLT, Int.reduceLE, Int.reduceNeg, Int.reduceAdd, Int.reduceSub, hw]
  first | done | rfl

theorem Yx {hp : Hp} {k v n : Nat} {b : Box} (hk : Aw hp k = some b) (hv : b.ver = v) (hn : n = b.es.length) : Ej hp (.row k v n) = some b.es := by
 unfold Ej
 simp only [hk, hv, hn, true_and, Nat.le_refl, if_true, List.take_length]
structure DS where
 m : Nat
 l : List UInt8
 v : Nat
end Go.Proofs.YteeiaaogmjbcjaaGreat
