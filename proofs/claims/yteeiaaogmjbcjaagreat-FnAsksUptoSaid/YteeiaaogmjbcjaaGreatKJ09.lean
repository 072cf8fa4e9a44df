/-
 RIGHT PATTERNS AND VALUES, told plainly. Conditions: none.
-/
import Derived.Test.YteeiaaogmjbcjaaGreatKWords
import Derived.Test.YteeiaaogmjbcjaaGreatKJ07
import Derived.Test.YteeiaaogmjbcjaaGreatKJ06
import Derived.Test.YteeiaaogmjbcjaaGreatProg
import Derived.Test.YteeiaaogmjbcjaaGreatKAvDraw
set_option linter.unusedVariables false
namespace Go.Proofs.YteeiaaogmjbcjaaGreat
open Go.RowKit Go.Proofs.YteeiaaogmjbcjaaGreat.Av Go.Proofs.YteeiaaogmjbcjaaGreat.Ml
open Go.Proofs.YteeiaaogmjbcjaaGreat.Av.AVal (av)

def Bw {α : Type} [Inhabited α] (kd : α → Int) (l : List α) (kids : List Int) (d : Int) : Bool :=
 match kids with
 | [k] => decide (0 ≤ k) && decide (k < l.length) && decide (kd (l.getD k.toNat default) = d)
 | _ => false
def Cy (l : List AU) (n : AU) : Bool :=
 if n.kind = 1 ∨ n.kind = 6 then decide (n.kids.length = 0) && decide (n.n = 0) && decide (n.s = bs [])
 else if n.kind = 2 then decide (n.kids.length = 0) && decide (n.n = 0) && Jk n.s
 else if n.kind = 3 then decide (n.kids.length = 0) && decide (n.s = bs []) && (decide (-4611686018427387903 ≤ n.n) && decide (n.n ≤ 4611686018427387903))
 else if n.kind = 4 then decide (n.n = 0) && DO n.s n.kids.length (Bw AU.kind l n.kids 5)
 else if n.kind = 5 then decide (n.kids.length = 2) && decide (n.n = 0) && decide (n.s = bs [])
 else false
def varsOf (l : List AU) : List ByteArray := l.filterMap fun n => if n.kind = 2 then some n.s else none
def FG (l : List AU) (i : Nat) : Bool := Cy l (l.getD i default) && !(decide ((l.getD i default).kind = 2) && (varsOf (l.take i)).any fun x => decide ((l.getD i default).s = x))
def BK (l : List AU) (i : Nat) : List Int := (l.getD i default).kids
def Dg (l : List AU) : Bool := (decide (1 ≤ (l.length : Int)) && decide ((l.length : Int) ≤ 600)) && Du (BK l) l.length && allI (FG l) l.length
theorem Ll {α : Type} [Inhabited α] {kd : α → Int} {l : List α} {kids : List Int} {d : Int} (h : ¬ (0 ≤ kids.getD 0 0 ∧ kids.getD 0 0 < l.length)) : Bw kd l kids d = false := by
 unfold Bw; split
 ·rename_i k
  simp only [List.getD_cons_zero] at h
  by_cases h0 : 0 ≤ k
  ·have : ¬ k < l.length := fun h1 => h ⟨h0, h1⟩
   simp [this]
  ·simp [h0]
 ·rfl
theorem Sg {l : List AU} {k : Nat} (h : k < l.length) : varsOf (l.take (k + 1)) = varsOf (l.take k) ++ (if l[k].kind = 2 then [l[k].s] else []) := by
 rw [List.take_succ_eq_append_getElem h, varsOf, List.filterMap_append]
 congr 1
 split <;> simp_all
theorem Ed {l : List AU} (hx : AB.bulk l ≤ 1048576) (k : Nat) (hk : k < l.length) : l[k].kids.length ≤ 1048576 ∧ l[k].s.size ≤ 1048576 := by
 have h1 := GM (List.getElem_mem hk)
 have h2 : AB.bulk l[k] = AB.bulk l[k].kind + AB.bulk l[k].n + AB.bulk l[k].s + AB.bulk l[k].kids + 1 := rfl
 have h3 := Bh l[k].kids
 have h4 : AB.bulk l[k].s = l[k].s.size + 1 := rfl
 omega
theorem Nr (l : List AU) : (varsOf l).length ≤ l.length := List.length_filterMap_le _ _
end Go.Proofs.YteeiaaogmjbcjaaGreat
set_option linter.unusedVariables false
set_option maxRecDepth 100000
namespace Go.Proofs.YteeiaaogmjbcjaaGreat
open Go.Proofs.YteeiaaogmjbcjaaGreat.Av

theorem Lz : Tryz.prog.follows .mixedOrders = true := by kernel_rfl

def IY : Ir Tryz.prog 57 [(9,7777)] [] 2 := ⟨_, _, Tryz.func57, Lz, by kernel_rfl, Ay [] Tryz.progTables (by conv => lhs; cbv) (by kernel_rfl)⟩
def Hb : Ir Tryz.prog 87 [(29,7777)] [9999] 5 := ⟨_, _, Tryz.func87, Lz, by kernel_rfl, Ay [] Tryz.progTables (by conv => lhs; cbv) (by kernel_rfl)⟩
end Go.Proofs.YteeiaaogmjbcjaaGreat
set_option linter.unusedVariables false
set_option linter.unusedSimpArgs false
set_option maxRecDepth 100000
namespace Go.Proofs.YteeiaaogmjbcjaaGreat
open Go.RowKit Go.Proofs.YteeiaaogmjbcjaaGreat.Av Go.Proofs.YteeiaaogmjbcjaaGreat.Ml
open Go.Proofs.YteeiaaogmjbcjaaGreat.Av.AVal (av)

def Lc (n : Nat) (g : FuncId) (caps : List AV) (v5 v6 : Nat) (nx : Nat) : Hp :=
 [(5, ⟨v5, false, 3, 1, [.int .i64 nx]⟩), (6, ⟨v6, false, 140, 1, [.fn 87 [.ptr 5 v5 0 0, .obj [.int .i64 n], .obj [.fn g caps], .ptr 6 v6 0 0]]⟩)]
theorem Ef (n : Nat) (g : FuncId) (caps : List AV) (v5 v6 : Nat) (nx : Nat) : Lc n g caps v5 v6 nx = [(5, ⟨v5, false, 3, 1, [.int .i64 nx]⟩), (6, ⟨v6, false, 140, 1, [.fn 87 [.ptr 5 v5 0 0, .obj [.int .i64 n], .obj [.fn g caps], .ptr 6 v6 0 0]]⟩)] := eqq rfl
def Iu (n : Nat) (g : FuncId) (caps : List AV) (v5 v6 : Nat) (o : Option Nat) (r : AV) (hp' : Hp) : Prop :=
 ∃ nx', r = .bool o.isSome ∧ hp' = Lc n g caps v5 v6 nx' ∧ (∀ m, o = some m → nx' = m)
theorem Iu.of {n : Nat} {g : FuncId} {caps : List AV} {v5 v6 nx : Nat} {o : Option Nat} {b : Bool} (h : o.isSome = b) (hm : ∀ m, o = some m → nx = m) : Iu n g caps v5 v6 o (.bool b) (Lc n g caps v5 v6 nx) := ⟨nx, by rw [h], rfl, hm⟩
theorem AbU (K : Nat → List Int) (n : Nat) (hn : n ≤ 1048576) (g : FuncId) (caps : List AV) (hc : ∀ hp, caps.map (AV.BB hp) = caps) (hK : ∀ i, i < n → (K i).length ≤ 1048576 ∧ AG Tryz.prog g (.int .i64 i :: caps) (.sl ((K i).map av))) (v5 v6 : Nat) :
  ∀ (f : Nat) (i : Int) (nx : Nat), nx ≤ n → n - nx < f → AO Tryz.prog 87 [.int .i64 i, .ptr 5 v5 0 0, .obj [.int .i64 n], .obj [.fn g caps], .ptr 6 v6 0 0] (Lc n g caps v5 v6 nx) (Iu n g caps v5 v6 (Hs K n f i nx)) := by
 intro f
 induction f with
 | zero => intro i nx _ h; omega
 | succ f ih =>
  intro i nx hnx hf
  refine Hb.H rfl ?_
  simp +contextual -dsimp only [↓SD, SU, simprocAttr, Hb, Ef, hc]
  refine ⟨fun hi => ⟨fun hle => ?_, fun hle => ⟨by omega, ?_⟩⟩, fun hi => ?_⟩
  ·refine Ah.post (Lc n g caps v5 v6 nx) ?_
   simp +contextual -dsimp only [↓SD, SU, simprocAttr, Ef]
   refine Iu.of ?_ ?_ <;> simp [Hs, B3, hi, Nat.not_lt.2 hle]
  ·obtain ⟨hk1, hk2⟩ := hK nx (by omega)
   refine Ae _ hk2 ?_
   simp +contextual -dsimp only [↓SD, SU, simprocAttr, Aa]
   refine AF (X := Nat × Nat) (fun x => ⟨[(4, .ptr 6 v6 0 0), (21, .sl ((K nx).map av)), (22, .int .i64 (K nx).length), (23, .int .i64 x.1)], Lc n g caps v5 v6 x.2⟩) (fun x => x.1 ≤ (K nx).length ∧ nx < x.2 ∧ x.2 ≤ n ∧ Ce (B3 K n f) (K nx) (nx + 1) = Ce (B3 K n f) ((K nx).drop x.1) x.2) (fun x => (K nx).length - x.1) (0, nx + 1) ⟨Nat.zero_le _, by simp, by simp only; omega, rfl⟩ (by simp +contextual -dsimp only [↓SD, SU, simprocAttr]) (by simp +contextual -dsimp only [↓SD, SU, simprocAttr, Ef, Int.natCast_add]) ?_
   rintro ⟨j, m⟩ ⟨hj, hm1, hm2, he⟩
   simp only at hj hm1 hm2 he
   have hw : Hs K n (f + 1) i nx = Ce (B3 K n f) ((K nx).drop j) m := by
    rw [Hs, if_pos hi, B3, if_pos (by omega), he]
   by_cases hlt : j < (K nx).length
   ·have e := getD_map av (K nx) j .top hlt
    rw [List.drop_eq_getElem_cons hlt, Ce] at he
    have hw' : Hs K n (f + 1) i nx = match Hs K n f (K nx)[j] m with | some m' => Ce (B3 K n f) ((K nx).drop (j + 1)) m' | none => none := by
     rw [hw, List.drop_eq_getElem_cons hlt, Ce, Hs]
     split <;> rfl
    have C := ih (K nx)[j] m hm2 (by omega)
    simp +contextual -dsimp only [↓SD, SU, simprocAttr, Aa, e, Af, hlt, Ef, hc]
    refine Ac [5, 6] C (by simp +contextual -dsimp only [↓SD, SU, simprocAttr, Ef]) ?_
    rintro r hp' ⟨nx', rfl, rfl, hnx'⟩
    cases ho : Hs K n f (K nx)[j] m with
    | none =>
     rw [ho] at hw'
     simp +contextual -dsimp only [↓SD, SU, simprocAttr, ho, Option.isSome_none]
     refine Ah.post (Lc n g caps v5 v6 nx') ?_
     simp +contextual -dsimp only [↓SD, SU, simprocAttr, Ef]
     rw [hw']
     exact Iu.of rfl (fun m h => by cases h)
    | some m' =>
     rw [ho] at hw'
     obtain rfl := hnx' m' ho
     have hm' : m < nx' ∧ nx' ≤ n := by
      unfold Hs at ho
      split at ho
      ·exact Fx K n f m nx' ho
      ·cases ho
     simp +contextual -dsimp only [↓SD, SU, simprocAttr, ho, Option.isSome_some]
     refine ⟨by omega, Ah.le ⟨(j + 1, nx'), ⟨⟨hlt, by simp only; omega, hm'.2, ?_⟩, (by first | omega | (simp only; omega))⟩, rfl⟩ (by simp +contextual -dsimp only [↓SD, SU, simprocAttr, Int.natCast_add]) (by simp +contextual -dsimp only [↓SD, SU, simprocAttr, Ef])⟩
     rw [he]
     simp only at hw' ⊢
     rw [Hs, if_pos hi, B3, if_pos (by omega), he] at hw'
     exact hw'
   ·obtain rfl : j = (K nx).length := by omega
    rw [List.drop_length, Ce] at hw
    simp +contextual -dsimp only [↓SD, SU, simprocAttr, Aa, Nat.lt_irrefl]
    refine Ah.post (Lc n g caps v5 v6 m) ?_
    simp +contextual -dsimp only [↓SD, SU, simprocAttr, Ef]
    rw [hw]
    exact Iu.of rfl (fun m h => by cases h; rfl)
  ·refine Ah.post (Lc n g caps v5 v6 nx) ?_
   simp +contextual -dsimp only [↓SD, SU, simprocAttr, Ef]
   refine Iu.of ?_ ?_ <;> simp [Hs, hi]

theorem Oe (K : Nat → List Int) (n : Nat) (hn : n ≤ 1048576) (g : FuncId) (caps : List AV) (hp : ∀ x ∈ caps, Aj x) (hc : ∀ hp, caps.map (AV.BB hp) = caps) (hK : ∀ i, i < n → (K i).length ≤ 1048576 ∧ AG Tryz.prog g (.int .i64 i :: caps) (.sl ((K i).map av))) :
  AG Tryz.prog 57 [.int .i64 n, .fn g caps] (.bool (Du K n)) := by
 refine IY.F rfl (by simp; exact ⟨Ea _, Aj.fn hp⟩) (Aj.bool _) ?_
 simp +contextual -dsimp only [↓SD, SU, simprocAttr, IY, hc]
 intro v5 v6
 have C := AbU K n hn g caps hc hK v5 v6 (n + 1) 0 0 (Nat.zero_le _) (by omega)
 refine Ac [5, 6] C (by simp +contextual -dsimp only [↓SD, SU, simprocAttr, Ef]) ?_
 rintro r hp' ⟨nx', rfl, rfl, hnx'⟩
 have e0 : Hs K n (n + 1) 0 0 = B3 K n (n + 1) 0 := by rw [Hs, if_pos (by rfl)]
 rw [e0] at hnx' ⊢
 cases ho : B3 K n (n + 1) 0 with
 | none =>
  simp +contextual -dsimp only [↓SD, SU, simprocAttr, ho, Option.isSome_none]
  simp [Du, ho]
 | some m =>
  obtain rfl := hnx' m ho
  simp +contextual -dsimp only [↓SD, SU, simprocAttr, ho, Option.isSome_some, Ef]
  simp [Du, ho]
end Go.Proofs.YteeiaaogmjbcjaaGreat
set_option linter.unusedVariables false
set_option linter.unusedSimpArgs false
set_option maxRecDepth 100000
namespace Go.Proofs.YteeiaaogmjbcjaaGreat
open Go.RowKit Go.Proofs.YteeiaaogmjbcjaaGreat.Av Go.Proofs.YteeiaaogmjbcjaaGreat.Ml
open Go.Proofs.YteeiaaogmjbcjaaGreat.Av.AVal (av)

set_option maxHeartbeats 4000000 in
theorem Rw (l : List AU) (n : AU) (hl : l.length ≤ 1048576) (hk : n.kids.length ≤ 1048576) (hs : n.s.size ≤ 1048576) (hin : n.kids.length = 1 → 0 ≤ n.kids.getD 0 0 ∧ n.kids.getD 0 0 < l.length) :
  AG Tryz.prog 59 [.agg [.sl (l.map av)], av n] (.bool (Cy l n)) := by
 refine E7.F rfl (by simp; exact ⟨Aj.agg (by simp; exact Aw l), AVal.clean n⟩) (Aj.bool _) ?_
 obtain ⟨kind, nn, s, kids⟩ := n
 simp only at hk hs hin ⊢
 rcases kids with _ | ⟨k0, _ | ⟨k1, _ | ⟨k2, ks⟩⟩⟩
 case cons.nil =>
  obtain ⟨g0, g1⟩ := hin rfl
  simp only [List.getD_cons_zero] at g0 g1
  have g2 : k0.toNat < l.length := by omega
  have e := Nm l default g2
  rw [A8] at e
  simp +contextual -dsimp only [↓SD, SU, simprocAttr, E7, A8, Af, Aa, g0, g1, g2, e]
  (repeat' (first | intro _ | refine And.intro ?_ ?_))
  all_goals first | omega | skip
  all_goals first | (refine Ae _ (Kr _ (by omega)) ?_; simp +contextual -dsimp only [↓SD, SU, simprocAttr, *]; (repeat' (first | intro _ | refine And.intro ?_ ?_))) | (refine Ae _ (Di _ _ _) ?_; simp +contextual -dsimp only [↓SD, SU, simprocAttr, *]; (repeat' (first | intro _ | refine And.intro ?_ ?_))) | (refine Ae _ (DL _ _ _ (by omega)) ?_; simp +contextual -dsimp only [↓SD, SU, simprocAttr, *]; (repeat' (first | intro _ | refine And.intro ?_ ?_))) | skip
  all_goals first | omega | (simp [Cy, Bw, g0, g1, *]; done) | trace_state
 all_goals
  simp +contextual -dsimp only [↓SD, SU, simprocAttr, E7, A8, Aa]
  (repeat' (first | intro _ | refine And.intro ?_ ?_))
  all_goals first | omega | skip
  all_goals first | (refine Ae _ (Kr _ (by omega)) ?_; simp +contextual -dsimp only [↓SD, SU, simprocAttr, *]; (repeat' (first | intro _ | refine And.intro ?_ ?_))) | (refine Ae _ (Di _ _ _) ?_; simp +contextual -dsimp only [↓SD, SU, simprocAttr, *]; (repeat' (first | intro _ | refine And.intro ?_ ?_))) | (refine Ae _ (DL _ _ _ (by omega)) ?_; simp +contextual -dsimp only [↓SD, SU, simprocAttr, *]; (repeat' (first | intro _ | refine And.intro ?_ ?_))) | skip
  all_goals first | omega | (simp [Cy, Bw, *]; done) | trace_state

set_option maxHeartbeats 4000000 in
theorem TA (l : List AU) (n : AU) (hl : l.length ≤ 1048576) (hk : n.kids.length ≤ 1048576) (hs : n.s.size ≤ 1048576) :
  AG Tryz.prog 36 [.agg [.sl (l.map av)], av n] (.bool (Cy l n)) := by
 refine C5.F rfl (by simp; exact ⟨Aj.agg (by simp; exact Aw l), AVal.clean n⟩) (Aj.bool _) ?_
 obtain ⟨kind, nn, s, kids⟩ := n
 simp only at hk hs ⊢
 rcases kids with _ | ⟨k0, _ | ⟨k1, _ | ⟨k2, ks⟩⟩⟩
 case cons.nil =>
  by_cases g : 0 ≤ k0 ∧ k0 < l.length
  ·obtain ⟨g0, g1⟩ := g
   have g2 : k0.toNat < l.length := by omega
   have e := Nm l default g2
   rw [A8] at e
   simp +contextual -dsimp only [↓SD, SU, simprocAttr, C5, A8, Af, Aa, g0, g1, g2, e]
   (repeat' (first | intro _ | refine And.intro ?_ ?_))
   all_goals first | omega | skip
   all_goals first | (refine Ae _ (EG _ (by omega)) ?_; simp +contextual -dsimp only [↓SD, SU, simprocAttr, *, Aa]; (repeat' (first | intro _ | refine And.intro ?_ ?_))) | (refine Ae _ (DI _ _ _ (by omega)) ?_; simp +contextual -dsimp only [↓SD, SU, simprocAttr, *, Aa]; (repeat' (first | intro _ | refine And.intro ?_ ?_))) | skip
   all_goals first | omega | (simp [Cy, Bw, g0, g1, *]; done) | trace_state
  ·have ho : Bw AU.kind l [k0] 5 = false := Ll (by simpa using g)
   by_cases g0 : 0 ≤ k0
   case' pos => have g1 : ¬ k0 < l.length := fun h => g ⟨g0, h⟩
   case' pos => simp +contextual -dsimp only [↓SD, SU, simprocAttr, C5, A8, Af, Aa, g0, g1]
   case' neg => simp +contextual -dsimp only [↓SD, SU, simprocAttr, C5, A8, Af, Aa, g0]
   all_goals clear g
   all_goals
    (repeat' (first | intro _ | refine And.intro ?_ ?_))
    all_goals first | omega | skip
    all_goals first | (refine Ae _ (EG _ (by omega)) ?_; simp +contextual -dsimp only [↓SD, SU, simprocAttr, *, Aa]; (repeat' (first | intro _ | refine And.intro ?_ ?_))) | (refine Ae _ (DI _ _ _ (by omega)) ?_; simp +contextual -dsimp only [↓SD, SU, simprocAttr, *, Aa]; (repeat' (first | intro _ | refine And.intro ?_ ?_))) | skip
    all_goals first | omega | (simp [Cy, ho, *]; done) | trace_state
 case cons.cons.cons =>
  have q0 : ¬ ((ks.length + 1 + 1 + 1 : Nat) : Int) = 0 := by omega
  have q1 : ¬ ((ks.length + 1 + 1 + 1 : Nat) : Int) = 1 := by omega
  have q2 : ¬ ((ks.length + 1 + 1 + 1 : Nat) : Int) = 2 := by omega
  simp +contextual -dsimp only [↓SD, SU, simprocAttr, C5, A8, Aa, q0, q1, q2]
  (repeat' (first | intro _ | refine And.intro ?_ ?_))
  all_goals first | omega | skip
  all_goals first | (refine Ae _ (EG _ (by omega)) ?_; simp +contextual -dsimp only [↓SD, SU, simprocAttr, *, Aa]; (repeat' (first | intro _ | refine And.intro ?_ ?_))) | (refine Ae _ (DI _ _ _ (by omega)) ?_; simp +contextual -dsimp only [↓SD, SU, simprocAttr, *, Aa]; (repeat' (first | intro _ | refine And.intro ?_ ?_))) | skip
  all_goals first | omega | (simp [Cy, Bw, *]; done) | trace_state
 all_goals
  simp +contextual -dsimp only [↓SD, SU, simprocAttr, C5, A8, Aa]
  (repeat' (first | intro _ | refine And.intro ?_ ?_))
  all_goals first | omega | skip
  all_goals first | (refine Ae _ (EG _ (by omega)) ?_; simp +contextual -dsimp only [↓SD, SU, simprocAttr, *, Aa]; (repeat' (first | intro _ | refine And.intro ?_ ?_))) | (refine Ae _ (DI _ _ _ (by omega)) ?_; simp +contextual -dsimp only [↓SD, SU, simprocAttr, *, Aa]; (repeat' (first | intro _ | refine And.intro ?_ ?_))) | skip
  all_goals first | omega | (simp [Cy, Bw, *]; done) | trace_state
end Go.Proofs.YteeiaaogmjbcjaaGreat
set_option linter.unusedVariables false
set_option linter.unusedSimpArgs false
set_option maxRecDepth 100000
namespace Go.Proofs.YteeiaaogmjbcjaaGreat
open Go.RowKit Go.Proofs.YteeiaaogmjbcjaaGreat.Av Go.Proofs.YteeiaaogmjbcjaaGreat.Ml
open Go.Proofs.YteeiaaogmjbcjaaGreat.Av.AVal (av)

theorem Zg (l : List AU) (i : Nat) (hi : i < l.length) : AG Tryz.prog 58 [.int .i64 i, .obj [.sl (l.map av)]] (.sl ((BK l i).map av)) := by
 have hc : Aj (.obj [.sl (l.map av)]) := Aj.obj (by simp; exact Aw l)
 refine I1.F rfl (by simp; exact ⟨Ea _, hc⟩) (Aw _) ?_
 have e := getD_map av l i .top hi
 simp +contextual -dsimp only [↓SD, SU, simprocAttr, I1, Aa, e, A8, hi, BK, Be hi]

theorem Kz {l : List AU} (h : ¬ (1 ≤ (l.length : Int) ∧ (l.length : Int) ≤ 600)) : Dg l = false := by
 cases hb : Dg l with
 | false => rfl
 | true => simp only [Dg, Bool.and_eq_true, decide_eq_true_eq] at hb; exact absurd hb.1.1 h
theorem Qg {l : List AU} (h : Du (BK l) l.length = false) : Dg l = false := by simp [Dg, h]
theorem Ni {l : List AU} {k : Nat} (h : k < l.length) (hb : FG l k = false) : Dg l = false := by
 unfold Dg; rw [O3 h hb, Bool.and_false]
theorem FC {l : List AU} (h : Dg l = true) : (1 ≤ l.length ∧ l.length ≤ 600) ∧ Du (BK l) l.length = true ∧ ∀ k, k < l.length → FG l k = true := by
 simp only [Dg, Bool.and_eq_true, decide_eq_true_eq, O2] at h
 exact ⟨by omega, h.1.2, h.2⟩
theorem Xp {l : List AU} (h1 : 1 ≤ l.length) (h2 : l.length ≤ 600) (h3 : Du (BK l) l.length = true) (h4 : ∀ k, k < l.length → FG l k = true) : Dg l = true := by
 simp only [Dg, Bool.and_eq_true, decide_eq_true_eq, O2]
 exact ⟨⟨by omega, h3⟩, h4⟩

theorem Ls (l : List AU) (hx : AB.bulk l ≤ 1048576) : AG Tryz.prog 28 [.agg [.sl (l.map av)]] (.bool (Dg l)) := by
 have hl := Bh l
 have hc : Aj (.obj [.sl (l.map av)]) := Aj.obj (by simp; exact Aw l)
 refine Kp.F rfl (by simp; exact Aj.agg (by simp; exact Aw l)) (Aj.bool _) ?_
 simp +contextual -dsimp only [↓SD, SU, simprocAttr, Kp, Aa]
 have C1 := Di (l.length : Int) 1 600
 by_cases hsm : 1 ≤ (l.length : Int) ∧ (l.length : Int) ≤ 600
 ·rw [decide_eq_true hsm.1, decide_eq_true hsm.2] at C1
  refine Ae _ C1 ?_
  simp +contextual -dsimp only [↓SD, SU, simprocAttr, Aa]
  have C2 := Oe (BK l) l.length (by omega) 58 [.obj [.sl (l.map av)]] (by simp; exact hc) (by intro hp; rfl) (fun i hi => ⟨by
   have := (Ed hx i hi).1
   rw [BK, Be hi]; exact this, Zg l i hi⟩)
  cases ht : Du (BK l) l.length with
  | false =>
   rw [ht] at C2
   refine Ae _ C2 ?_
   simp +contextual -dsimp only [↓SD, SU, simprocAttr, Qg ht]
  | true =>
   rw [ht] at C2
   refine Ae _ C2 ?_
   simp +contextual -dsimp only [↓SD, SU, simprocAttr, Aa]
   intro v
   refine AF (X := Nat × Nat) (fun x => ⟨[(1, .obj [.sl (l.map av)]), (3, .row 19 x.2 (varsOf (l.take x.1)).length), (21, .sl (l.map av)), (22, .int .i64 l.length), (23, .int .i64 x.1)], [(19, ⟨x.2, false, 9, 1, (varsOf (l.take x.1)).map av⟩)]⟩) (fun x => x.1 ≤ l.length ∧ ∀ i, i < x.1 → FG l i = true) (fun x => l.length - x.1) (0, v) ⟨Nat.zero_le _, fun i h => by omega⟩ (by simp +contextual -dsimp only [↓SD, SU, simprocAttr, varsOf, List.filterMap_nil]) (by simp +contextual -dsimp only [↓SD, SU, simprocAttr, varsOf, List.filterMap_nil]) ?_
   rintro ⟨k, u⟩ ⟨hk, hp⟩
   simp only at hk hp
   by_cases hlt : k < l.length
   ·have e := getD_map av l k .top hlt
    obtain ⟨s1, s2⟩ := Ed hx k hlt
    have hin : l[k].kids.length = 1 → 0 ≤ l[k].kids.getD 0 0 ∧ l[k].kids.getD 0 0 < l.length := fun h1 => by
     have := D5 ht hlt (k := l[k].kids.getD 0 0) (by
      simp only [BK, Be hlt]
      rw [Be (by omega)]
      exact List.getElem_mem _)
     omega
    have C3 := Rw l l[k] (by omega) (by omega) (by omega) hin
    have C4 := JT (varsOf (l.take k)) l[k].s (by have := Nr (l.take k); simp at this; omega)
    have hI : FG l k = (Cy l l[k] && !(decide (l[k].kind = 2) && (varsOf (l.take k)).any fun x => decide (l[k].s = x))) := by simp only [FG, Be hlt]
    have hv := Sg hlt
    have hvl := Nr (l.take k)
    rw [List.length_take] at hvl
    generalize l[k] = a at *
    rw [A8] at C3
    simp +contextual -dsimp only [↓SD, SU, simprocAttr, Aa, hlt, e, A8]
    intro w
    cases hb : Cy l a with
    | false =>
     rw [hb] at C3
     refine Ae _ C3 ?_
     simp +contextual -dsimp only [↓SD, SU, simprocAttr]
     rw [Ni hlt (by rw [hI, hb]; rfl)]
    | true =>
     rw [hb] at C3
     refine Ae _ C3 ?_
     simp +contextual -dsimp only [↓SD, SU, simprocAttr]
     refine ⟨fun hk2 => ?_, fun hk2 => ?_⟩
     ·refine ZV [19] C4 rfl (by simp +contextual -dsimp only [↓SD, SU, simprocAttr, Ab, List.take_length, List.length_map]; simp [List.take_of_length_le]) ?_
      simp +contextual -dsimp only [↓SD, SU, simprocAttr, hk2, Aa]
      refine ⟨fun hc => ?_, fun hc => ?_⟩
      ·rw [Ni hlt (by rw [hI, hb, hk2, hc]; rfl)]
      ·have hIk : FG l k = true := by rw [hI, hb, hk2, hc]; rfl
       rw [if_pos hk2] at hv
       (repeat' (first | intro _ | refine And.intro ?_ ?_))
       all_goals first | omega | (unfold maxLen; omega) | skip
       rename_i u'
       exact Ah.le ⟨(k + 1, u'), ⟨⟨hlt, fun i hi => (Nat.lt_succ_iff_lt_or_eq.1 hi).elim (hp i) (fun e => e ▸ hIk)⟩, (by first | omega | (simp only; omega))⟩, rfl⟩ (by simp +contextual -dsimp only [↓SD, SU, simprocAttr, Int.natCast_add, hv, List.length_append]) (by simp +contextual -dsimp only [↓SD, SU, simprocAttr, hv, Ab, KY, List.map_append, FA])
     ·have hIk : FG l k = true := by rw [hI, hb, decide_eq_false hk2]; rfl
      rw [if_neg hk2, List.append_nil] at hv
      refine ⟨by omega, Ah.le ⟨(k + 1, u), ⟨⟨hlt, fun i hi => (Nat.lt_succ_iff_lt_or_eq.1 hi).elim (hp i) (fun e => e ▸ hIk)⟩, (by first | omega | (simp only; omega))⟩, rfl⟩ (by simp +contextual -dsimp only [↓SD, SU, simprocAttr, Int.natCast_add, hv]) (by simp +contextual -dsimp only [↓SD, SU, simprocAttr, hv])⟩
   ·obtain rfl : k = l.length := by omega
    simp +contextual -dsimp only [↓SD, SU, simprocAttr, Aa, Nat.lt_irrefl]
    rw [Xp (by omega) (by omega) ht hp]
 ·have hf : (decide (1 ≤ (l.length : Int)) && decide ((l.length : Int) ≤ 600)) = false := by
   rw [Bool.and_eq_false_iff, decide_eq_false_iff_not, decide_eq_false_iff_not]; omega
  rw [hf] at C1
  refine Ae _ C1 ?_
  simp +contextual -dsimp only [↓SD, SU, simprocAttr, Kz hsm]

def Me (o : Option Nat) : Int := match o with | some m => (m : Int) | none => -1
theorem VT (l : List AU) (hx : AB.bulk l ≤ 1048576) : ∀ (f i : Nat), l.length - i < f → i ≤ 1048576 → AG Tryz.prog 37 [.agg [.sl (l.map av)], .int .i64 i] (.int .i64 (Me (B3 (BK l) l.length f i))) := by
 have hl := Bh l
 intro f
 induction f with
 | zero => intro i h; omega
 | succ f ih =>
  intro i hf hi0
  refine FO.F rfl (by simp; exact ⟨Aj.agg (by simp; exact Aw l), Ea _⟩) (Ea _) ?_
  by_cases hi : i < l.length
  ·have e := getD_map av l i .top hi
   have hs := (Ed hx i hi).1
   have hK : BK l i = l[i].kids := by rw [BK, Be hi]
   have hE : B3 (BK l) l.length (f + 1) i = Ce (B3 (BK l) l.length f) l[i].kids (i + 1) := by rw [B3, if_pos hi, hK]
   rw [hE]
   generalize l[i] = a at *
   simp +contextual -dsimp only [↓SD, SU, simprocAttr, FO, Aa, hi, e, A8, Nat.not_le]
   refine ⟨by omega, by omega, ?_⟩
   refine AF (X := Nat × Nat) (fun x => ⟨[(2, .obj [.sl (l.map av)]), (5, .int .i64 x.2), (20, .sl (a.kids.map av)), (21, .int .i64 a.kids.length), (22, .int .i64 x.1)], []⟩) (fun x => x.1 ≤ a.kids.length ∧ i < x.2 ∧ x.2 ≤ l.length ∧ Ce (B3 (BK l) l.length f) a.kids (i + 1) = Ce (B3 (BK l) l.length f) (a.kids.drop x.1) x.2) (fun x => a.kids.length - x.1) (0, i + 1) ⟨Nat.zero_le _, by simp, by simp only; omega, rfl⟩ (by simp +contextual -dsimp only [↓SD, SU, simprocAttr, Int.natCast_add]) trivial ?_
   rintro ⟨j, m⟩ ⟨hj, hm1, hm2, he⟩
   simp only at hj hm1 hm2 he
   by_cases hlt : j < a.kids.length
   ·have e2 := getD_map av a.kids j .top hlt
    rw [List.drop_eq_getElem_cons hlt, Ce] at he
    have C := ih m (by omega) (by omega)
    by_cases hkm : a.kids[j] = (m : Int)
    ·rw [if_pos hkm] at he
     simp +contextual -dsimp only [↓SD, SU, simprocAttr, Aa, hlt, e2, Af, hkm]
     refine Ae _ C ?_
     cases hm' : B3 (BK l) l.length f m with
     | none =>
      rw [hm'] at he
      simp +contextual -dsimp only [↓SD, SU, simprocAttr, Me]
      rw [he]
     | some m' =>
      rw [hm'] at he
      have := Fx (BK l) l.length f m m' hm'
      have hneg : ¬ ((m' : Int) < 0) := by omega
      simp +contextual -dsimp only [↓SD, SU, simprocAttr, Me, hneg]
      refine ⟨by omega, Ah.le ⟨(j + 1, m'), ⟨⟨hlt, by simp only; omega, this.2, he⟩, (by first | omega | (simp only; omega))⟩, rfl⟩ (by simp +contextual -dsimp only [↓SD, SU, simprocAttr, Int.natCast_add]) trivial⟩
    ·rw [if_neg hkm] at he
     simp +contextual -dsimp only [↓SD, SU, simprocAttr, Aa, hlt, e2, Af, hkm]
     rw [he]; rfl
   ·obtain rfl : j = a.kids.length := by omega
    rw [List.drop_length, Ce] at he
    simp +contextual -dsimp only [↓SD, SU, simprocAttr, Aa, Nat.lt_irrefl]
    rw [he]; rfl
  ·have hE : B3 (BK l) l.length (f + 1) i = none := by rw [B3, if_neg hi]
   have hi' : l.length ≤ i := by omega
   simp +contextual -dsimp only [↓SD, SU, simprocAttr, FO, Aa, hi', hE]
   rfl

end Go.Proofs.YteeiaaogmjbcjaaGreat
