/-
  THE ABSTRACT TEXTS OF FUNCTIONS (Pat), printed by irgen.py, and that they are the functions' own. Conditions: none.
-/
import Derived.Test.YtjbcnilllfaipaaGreatProg
import Derived.Test.YtjbcnilllfaipaaGreatYAvDraw
import Derived.Test.YtjbcnilllfaipaaGreatYJ08
import Derived.Test.YtjbcnilllfaipaaGreatYJ06
import Derived.Test.YtjbcnilllfaipaaGreatYJ10
set_option linter.unusedVariables false
set_option maxRecDepth 100000
namespace Go.Proofs.YtjbcnilllfaipaaGreat
open Go.Proofs.YtjbcnilllfaipaaGreat.Av

theorem FC : Tryz.prog.follows .mixedOrders = true := by kernel_rfl

def KQ : Ir Tryz.prog 54 [] [] 1 := ⟨_, _, Tryz.func54, FC, by kernel_rfl, Ag [] Tryz.progTables (by conv => lhs; cbv) (by kernel_rfl)⟩
def JE : Ir Tryz.prog 97 [] [] 2 := ⟨_, _, Tryz.func97, FC, by kernel_rfl, Ag [] Tryz.progTables (by conv => lhs; cbv) (by kernel_rfl)⟩
def FP : Ir Tryz.prog 98 [] [] 2 := ⟨_, _, Tryz.func98, FC, by kernel_rfl, Ag [] Tryz.progTables (by conv => lhs; cbv) (by kernel_rfl)⟩
def KJ : Ir Tryz.prog 73 [] [] 1 := ⟨_, _, Tryz.func73, FC, by kernel_rfl, Ag [] Tryz.progTables (by conv => lhs; cbv) (by kernel_rfl)⟩
def Ds : Ir Tryz.prog 116 [] [] 2 := ⟨_, _, Tryz.func116, FC, by kernel_rfl, Ag [] Tryz.progTables (by conv => lhs; cbv) (by kernel_rfl)⟩
def Gp : Ir Tryz.prog 117 [] [] 2 := ⟨_, _, Tryz.func117, FC, by kernel_rfl, Ag [] Tryz.progTables (by conv => lhs; cbv) (by kernel_rfl)⟩
end Go.Proofs.YtjbcnilllfaipaaGreat
set_option linter.unusedVariables false
set_option maxRecDepth 100000
namespace Go.Proofs.YtjbcnilllfaipaaGreat
open Go.Proofs.YtjbcnilllfaipaaGreat.Av

theorem Mh : Tryz.prog.follows .mixedOrders = true := by kernel_rfl

def JB : Ir Tryz.prog 86 [(9,7777)] [] 2 := ⟨_, _, Tryz.func86, Mh, by kernel_rfl, Ag [] Tryz.progTables (by conv => lhs; cbv) (by kernel_rfl)⟩
def HK : Ir Tryz.prog 122 [(29,7777)] [9999] 5 := ⟨_, _, Tryz.func122, Mh, by kernel_rfl, Ag [] Tryz.progTables (by conv => lhs; cbv) (by kernel_rfl)⟩
end Go.Proofs.YtjbcnilllfaipaaGreat
set_option linter.unusedVariables false
set_option linter.unusedSimpArgs false
set_option maxRecDepth 100000
namespace Go.Proofs.YtjbcnilllfaipaaGreat
open Go.RowKit Go.Proofs.YtjbcnilllfaipaaGreat.Av Go.Proofs.YtjbcnilllfaipaaGreat.Ml
open Go.Proofs.YtjbcnilllfaipaaGreat.Av.AVal (av)

def LB (n : Nat) (g : FuncId) (caps : List AV) (v5 v6 : Nat) (nx : Nat) : Hp :=
 [(5, ⟨v5, false, 3, 1, [.int .i64 nx]⟩), (6, ⟨v6, false, 194, 1, [.fn 122 [.ptr 5 v5 0 0, .obj [.int .i64 n], .obj [.fn g caps], .ptr 6 v6 0 0]]⟩)]
theorem Ew (n : Nat) (g : FuncId) (caps : List AV) (v5 v6 : Nat) (nx : Nat) : LB n g caps v5 v6 nx = [(5, ⟨v5, false, 3, 1, [.int .i64 nx]⟩), (6, ⟨v6, false, 194, 1, [.fn 122 [.ptr 5 v5 0 0, .obj [.int .i64 n], .obj [.fn g caps], .ptr 6 v6 0 0]]⟩)] := eqq rfl
def Jb (n : Nat) (g : FuncId) (caps : List AV) (v5 v6 : Nat) (o : Option Nat) (r : AV) (hp' : Hp) : Prop :=
 ∃ nx', r = .bool o.isSome ∧ hp' = LB n g caps v5 v6 nx' ∧ (∀ m, o = some m → nx' = m)
theorem Jb.of {n : Nat} {g : FuncId} {caps : List AV} {v5 v6 nx : Nat} {o : Option Nat} {b : Bool} (h : o.isSome = b) (hm : ∀ m, o = some m → nx = m) : Jb n g caps v5 v6 o (.bool b) (LB n g caps v5 v6 nx) := ⟨nx, by rw [h], rfl, hm⟩
theorem Ab2 (K : Nat → List Int) (n : Nat) (hn : n ≤ 1099511627776) (g : FuncId) (caps : List AV) (hc : ∀ hp, caps.map (AV.AR hp) = caps) (hK : ∀ i, i < n → (K i).length ≤ 1099511627776 ∧ Ap Tryz.prog g (.int .i64 i :: caps) (.sl ((K i).map av))) (v5 v6 : Nat) :
  ∀ (f : Nat) (i : Int) (nx : Nat), nx ≤ n → n - nx < f → Ay Tryz.prog 122 [.int .i64 i, .ptr 5 v5 0 0, .obj [.int .i64 n], .obj [.fn g caps], .ptr 6 v6 0 0] (LB n g caps v5 v6 nx) (Jb n g caps v5 v6 (H8 K n f i nx)) := by
 intro f
 induction f with
 | zero => intro i nx _ h; omega
 | succ f ih =>
  intro i nx hnx hf
  refine HK.H rfl ?_
  simp +contextual -dsimp only [↓SD, SU, simprocAttr, HK, Ew, hc]
  refine ⟨fun hi => ⟨fun hle => ?_, fun hle => ⟨by omega, ?_⟩⟩, fun hi => ?_⟩
  ·refine Af.post (LB n g caps v5 v6 nx) ?_
   simp +contextual -dsimp only [↓SD, SU, simprocAttr, Ew]
   refine Jb.of ?_ ?_ <;> simp [H8, DV, hi, Nat.not_lt.2 hle]
  ·obtain ⟨hk1, hk2⟩ := hK nx (by omega)
   refine Ab _ hk2 ?_
   simp +contextual -dsimp only [↓SD, SU, simprocAttr, Aa]
   refine Al (X := Nat × Nat) (fun x => ⟨[(4, .ptr 6 v6 0 0), (21, .sl ((K nx).map av)), (22, .int .i64 (K nx).length), (23, .int .i64 x.1)], LB n g caps v5 v6 x.2⟩) (fun x => x.1 ≤ (K nx).length ∧ nx < x.2 ∧ x.2 ≤ n ∧ D0 (DV K n f) (K nx) (nx + 1) = D0 (DV K n f) ((K nx).drop x.1) x.2) (fun x => (K nx).length - x.1) (0, nx + 1) ⟨Nat.zero_le _, by simp, by simp only; omega, rfl⟩ (by simp +contextual -dsimp only [↓SD, SU, simprocAttr]) (by simp +contextual -dsimp only [↓SD, SU, simprocAttr, Ew, Int.natCast_add]) ?_
   rintro ⟨j, m⟩ ⟨hj, hm1, hm2, he⟩
   simp only at hj hm1 hm2 he
   have hw : H8 K n (f + 1) i nx = D0 (DV K n f) ((K nx).drop j) m := by
    rw [H8, if_pos hi, DV, if_pos (by omega), he]
   by_cases hlt : j < (K nx).length
   ·have e := getD_map av (K nx) j .top hlt
    rw [List.drop_eq_getElem_cons hlt, D0] at he
    have hw' : H8 K n (f + 1) i nx = match H8 K n f (K nx)[j] m with | some m' => D0 (DV K n f) ((K nx).drop (j + 1)) m' | none => none := by
     rw [hw, List.drop_eq_getElem_cons hlt, D0, H8]
     split <;> rfl
    have C := ih (K nx)[j] m hm2 (by omega)
    simp +contextual -dsimp only [↓SD, SU, simprocAttr, Aa, e, Bo, hlt, Ew, hc]
    refine Ae [5, 6] C (by simp +contextual -dsimp only [↓SD, SU, simprocAttr, Ew]) ?_
    rintro r hp' ⟨nx', rfl, rfl, hnx'⟩
    cases ho : H8 K n f (K nx)[j] m with
    | none =>
     rw [ho] at hw'
     simp +contextual -dsimp only [↓SD, SU, simprocAttr, ho, Option.isSome_none]
     refine Af.post (LB n g caps v5 v6 nx') ?_
     simp +contextual -dsimp only [↓SD, SU, simprocAttr, Ew]
     rw [hw']
     exact Jb.of rfl (fun m h => by cases h)
    | some m' =>
     rw [ho] at hw'
     obtain rfl := hnx' m' ho
     have hm' : m < nx' ∧ nx' ≤ n := by
      unfold H8 at ho
      split at ho
      ·exact MW K n f m nx' ho
      ·cases ho
     simp +contextual -dsimp only [↓SD, SU, simprocAttr, ho, Option.isSome_some]
     refine ⟨by omega, Af.le ⟨(j + 1, nx'), ⟨⟨hlt, by simp only; omega, hm'.2, ?_⟩, (by first | omega | (simp only; omega))⟩, rfl⟩ (by simp +contextual -dsimp only [↓SD, SU, simprocAttr, Int.natCast_add]) (by simp +contextual -dsimp only [↓SD, SU, simprocAttr, Ew])⟩
     rw [he]
     simp only at hw' ⊢
     rw [H8, if_pos hi, DV, if_pos (by omega), he] at hw'
     exact hw'
   ·obtain rfl : j = (K nx).length := by omega
    rw [List.drop_length, D0] at hw
    simp +contextual -dsimp only [↓SD, SU, simprocAttr, Aa, Nat.lt_irrefl]
    refine Af.post (LB n g caps v5 v6 m) ?_
    simp +contextual -dsimp only [↓SD, SU, simprocAttr, Ew]
    rw [hw]
    exact Jb.of rfl (fun m h => by cases h; rfl)
  ·refine Af.post (LB n g caps v5 v6 nx) ?_
   simp +contextual -dsimp only [↓SD, SU, simprocAttr, Ew]
   refine Jb.of ?_ ?_ <;> simp [H8, hi]

theorem OY (K : Nat → List Int) (n : Nat) (hn : n ≤ 1099511627776) (g : FuncId) (caps : List AV) (hp : ∀ x ∈ caps, Ac x) (hc : ∀ hp, caps.map (AV.AR hp) = caps) (hK : ∀ i, i < n → (K i).length ≤ 1099511627776 ∧ Ap Tryz.prog g (.int .i64 i :: caps) (.sl ((K i).map av))) :
  Ap Tryz.prog 86 [.int .i64 n, .fn g caps] (.bool (Fw K n)) := by
 refine JB.F rfl (by simp; exact ⟨BL _, Ac.fn hp⟩) (Ac.bool _) ?_
 simp +contextual -dsimp only [↓SD, SU, simprocAttr, JB, hc]
 intro v5 v6
 have C := Ab2 K n hn g caps hc hK v5 v6 (n + 1) 0 0 (Nat.zero_le _) (by omega)
 refine Ae [5, 6] C (by simp +contextual -dsimp only [↓SD, SU, simprocAttr, Ew]) ?_
 rintro r hp' ⟨nx', rfl, rfl, hnx'⟩
 have e0 : H8 K n (n + 1) 0 0 = DV K n (n + 1) 0 := by rw [H8, if_pos (by rfl)]
 rw [e0] at hnx' ⊢
 cases ho : DV K n (n + 1) 0 with
 | none =>
  simp +contextual -dsimp only [↓SD, SU, simprocAttr, ho, Option.isSome_none]
  simp [Fw, ho]
 | some m =>
  obtain rfl := hnx' m ho
  simp +contextual -dsimp only [↓SD, SU, simprocAttr, ho, Option.isSome_some, Ew]
  simp [Fw, ho]
end Go.Proofs.YtjbcnilllfaipaaGreat
set_option linter.unusedVariables false
set_option linter.unusedSimpArgs false
set_option maxRecDepth 100000
namespace Go.Proofs.YtjbcnilllfaipaaGreat
open Go.RowKit Go.Proofs.YtjbcnilllfaipaaGreat.Av Go.Proofs.YtjbcnilllfaipaaGreat.Ml
open Go.Proofs.YtjbcnilllfaipaaGreat.Av.AVal (av)

set_option maxHeartbeats 4000000 in
theorem Sd (l : List Bp) (n : Bp) (hl : l.length ≤ 1099511627776) (hk : n.kids.length ≤ 1099511627776) (hs : n.s.size ≤ 1099511627776) (hin : n.kids.length = 1 → 0 ≤ n.kids.getD 0 0 ∧ n.kids.getD 0 0 < l.length) :
  Ap Tryz.prog 98 [.agg [.sl (l.map av)], av n] (.bool (Ec l n)) := by
 refine FP.F rfl (by simp; exact ⟨Ac.agg (by simp; exact Aq l), AVal.clean n⟩) (Ac.bool _) ?_
 obtain ⟨kind, nn, s, kids⟩ := n
 simp only at hk hs hin ⊢
 rcases kids with _ | ⟨k0, _ | ⟨k1, _ | ⟨k2, ks⟩⟩⟩
 case cons.nil =>
  obtain ⟨g0, g1⟩ := hin rfl
  simp only [List.getD_cons_zero] at g0 g1
  have g2 : k0.toNat < l.length := by omega
  have e := KE l default g2
  rw [A8] at e
  simp +contextual -dsimp only [↓SD, SU, simprocAttr, FP, A8, Bo, Aa, g0, g1, g2, e]
  (repeat' (first | intro _ | refine And.intro ?_ ?_))
  all_goals first | omega | skip
  all_goals first | (refine Ab _ (Fb _ (by omega)) ?_; simp +contextual -dsimp only [↓SD, SU, simprocAttr, *]; (repeat' (first | intro _ | refine And.intro ?_ ?_))) | (refine Ab _ (Em _ _ _) ?_; simp +contextual -dsimp only [↓SD, SU, simprocAttr, *]; (repeat' (first | intro _ | refine And.intro ?_ ?_))) | (refine Ab _ (HO _ _ _ (by omega)) ?_; simp +contextual -dsimp only [↓SD, SU, simprocAttr, *]; (repeat' (first | intro _ | refine And.intro ?_ ?_))) | skip
  all_goals first | omega | (simp [Ec, AG, g0, g1, *]; done) | trace_state
 all_goals
  simp +contextual -dsimp only [↓SD, SU, simprocAttr, FP, A8, Aa]
  (repeat' (first | intro _ | refine And.intro ?_ ?_))
  all_goals first | omega | skip
  all_goals first | (refine Ab _ (Fb _ (by omega)) ?_; simp +contextual -dsimp only [↓SD, SU, simprocAttr, *]; (repeat' (first | intro _ | refine And.intro ?_ ?_))) | (refine Ab _ (Em _ _ _) ?_; simp +contextual -dsimp only [↓SD, SU, simprocAttr, *]; (repeat' (first | intro _ | refine And.intro ?_ ?_))) | (refine Ab _ (HO _ _ _ (by omega)) ?_; simp +contextual -dsimp only [↓SD, SU, simprocAttr, *]; (repeat' (first | intro _ | refine And.intro ?_ ?_))) | skip
  all_goals first | omega | (simp [Ec, AG, *]; done) | trace_state

set_option maxHeartbeats 4000000 in
theorem Um (l : List Bp) (n : Bp) (hl : l.length ≤ 1099511627776) (hk : n.kids.length ≤ 1099511627776) (hs : n.s.size ≤ 1099511627776) :
  Ap Tryz.prog 116 [.agg [.sl (l.map av)], av n] (.bool (Ec l n)) := by
 refine Ds.F rfl (by simp; exact ⟨Ac.agg (by simp; exact Aq l), AVal.clean n⟩) (Ac.bool _) ?_
 obtain ⟨kind, nn, s, kids⟩ := n
 simp only at hk hs ⊢
 rcases kids with _ | ⟨k0, _ | ⟨k1, _ | ⟨k2, ks⟩⟩⟩
 case cons.nil =>
  by_cases g : 0 ≤ k0 ∧ k0 < l.length
  ·obtain ⟨g0, g1⟩ := g
   have g2 : k0.toNat < l.length := by omega
   have e := KE l default g2
   rw [A8] at e
   simp +contextual -dsimp only [↓SD, SU, simprocAttr, Ds, A8, Bo, Aa, g0, g1, g2, e]
   (repeat' (first | intro _ | refine And.intro ?_ ?_))
   all_goals first | omega | skip
   all_goals first | (refine Ab _ (AZ _ (by omega)) ?_; simp +contextual -dsimp only [↓SD, SU, simprocAttr, *, Aa]; (repeat' (first | intro _ | refine And.intro ?_ ?_))) | (refine Ab _ (FA _ _ _ (by omega)) ?_; simp +contextual -dsimp only [↓SD, SU, simprocAttr, *, Aa]; (repeat' (first | intro _ | refine And.intro ?_ ?_))) | skip
   all_goals first | omega | (simp [Ec, AG, g0, g1, *]; done) | trace_state
  ·have ho : AG Bp.kind l [k0] 5 = false := Sf (by simpa using g)
   by_cases g0 : 0 ≤ k0
   case' pos => have g1 : ¬ k0 < l.length := fun h => g ⟨g0, h⟩
   case' pos => simp +contextual -dsimp only [↓SD, SU, simprocAttr, Ds, A8, Bo, Aa, g0, g1]
   case' neg => simp +contextual -dsimp only [↓SD, SU, simprocAttr, Ds, A8, Bo, Aa, g0]
   all_goals clear g
   all_goals
    (repeat' (first | intro _ | refine And.intro ?_ ?_))
    all_goals first | omega | skip
    all_goals first | (refine Ab _ (AZ _ (by omega)) ?_; simp +contextual -dsimp only [↓SD, SU, simprocAttr, *, Aa]; (repeat' (first | intro _ | refine And.intro ?_ ?_))) | (refine Ab _ (FA _ _ _ (by omega)) ?_; simp +contextual -dsimp only [↓SD, SU, simprocAttr, *, Aa]; (repeat' (first | intro _ | refine And.intro ?_ ?_))) | skip
    all_goals first | omega | (simp [Ec, ho, *]; done) | trace_state
 case cons.cons.cons =>
  have q0 : ¬ ((ks.length + 1 + 1 + 1 : Nat) : Int) = 0 := by omega
  have q1 : ¬ ((ks.length + 1 + 1 + 1 : Nat) : Int) = 1 := by omega
  have q2 : ¬ ((ks.length + 1 + 1 + 1 : Nat) : Int) = 2 := by omega
  simp +contextual -dsimp only [↓SD, SU, simprocAttr, Ds, A8, Aa, q0, q1, q2]
  (repeat' (first | intro _ | refine And.intro ?_ ?_))
  all_goals first | omega | skip
  all_goals first | (refine Ab _ (AZ _ (by omega)) ?_; simp +contextual -dsimp only [↓SD, SU, simprocAttr, *, Aa]; (repeat' (first | intro _ | refine And.intro ?_ ?_))) | (refine Ab _ (FA _ _ _ (by omega)) ?_; simp +contextual -dsimp only [↓SD, SU, simprocAttr, *, Aa]; (repeat' (first | intro _ | refine And.intro ?_ ?_))) | skip
  all_goals first | omega | (simp [Ec, AG, *]; done) | trace_state
 all_goals
  simp +contextual -dsimp only [↓SD, SU, simprocAttr, Ds, A8, Aa]
  (repeat' (first | intro _ | refine And.intro ?_ ?_))
  all_goals first | omega | skip
  all_goals first | (refine Ab _ (AZ _ (by omega)) ?_; simp +contextual -dsimp only [↓SD, SU, simprocAttr, *, Aa]; (repeat' (first | intro _ | refine And.intro ?_ ?_))) | (refine Ab _ (FA _ _ _ (by omega)) ?_; simp +contextual -dsimp only [↓SD, SU, simprocAttr, *, Aa]; (repeat' (first | intro _ | refine And.intro ?_ ?_))) | skip
  all_goals first | omega | (simp [Ec, AG, *]; done) | trace_state
end Go.Proofs.YtjbcnilllfaipaaGreat
