/-
 RIGHT PATTERNS AND VALUES, told plainly. Conditions: none.
-/
import Derived.Test.YtoffpbehgncakaaGreatKWords
import Derived.Test.YtoffpbehgncakaaGreatKJ11
import Derived.Test.YtoffpbehgncakaaGreatProg
import Derived.Test.YtoffpbehgncakaaGreatKAvDraw
import Derived.Test.YtoffpbehgncakaaGreatKJ06
set_option linter.unusedVariables false
namespace Go.Proofs.YtoffpbehgncakaaGreat
open Go.RowKit Go.Proofs.YtoffpbehgncakaaGreat.Av Go.Proofs.YtoffpbehgncakaaGreat.Ml
open Go.Proofs.YtoffpbehgncakaaGreat.Av.AVal (av)

def AM {α : Type} [Inhabited α] (kd : α → Int) (l : List α) (kids : List Int) (d : Int) : Bool :=
 match kids with
 | [k] => decide (0 ≤ k) && decide (k < l.length) && decide (kd (l.getD k.toNat default) = d)
 | _ => false
def ES (l : List BD) (n : BD) : Bool :=
 if n.kind = 1 ∨ n.kind = 6 then decide (n.kids.length = 0) && decide (n.n = 0) && decide (n.s = bs [])
 else if n.kind = 2 then decide (n.kids.length = 0) && decide (n.n = 0) && Eu n.s
 else if n.kind = 3 then decide (n.kids.length = 0) && decide (n.s = bs []) && (decide (-4611686018427387903 ≤ n.n) && decide (n.n ≤ 4611686018427387903))
 else if n.kind = 4 then decide (n.n = 0) && Ik n.s n.kids.length (AM BD.kind l n.kids 5)
 else if n.kind = 5 then decide (n.kids.length = 2) && decide (n.n = 0) && decide (n.s = bs [])
 else false
def varsOf (l : List BD) : List ByteArray := l.filterMap fun n => if n.kind = 2 then some n.s else none
def Hv (l : List BD) (i : Nat) : Bool := ES l (l.getD i default) && !(decide ((l.getD i default).kind = 2) && (varsOf (l.take i)).any fun x => decide ((l.getD i default).s = x))
def DV (l : List BD) (i : Nat) : List Int := (l.getD i default).kids
def F5 (l : List BD) : Bool := (decide (1 ≤ (l.length : Int)) && decide ((l.length : Int) ≤ 600)) && Eg (DV l) l.length && allI (Hv l) l.length
theorem Qu {α : Type} [Inhabited α] {kd : α → Int} {l : List α} {kids : List Int} {d : Int} (h : ¬ (0 ≤ kids.getD 0 0 ∧ kids.getD 0 0 < l.length)) : AM kd l kids d = false := by
 unfold AM; split
 ·rename_i k
  simp only [List.getD_cons_zero] at h
  by_cases h0 : 0 ≤ k
  ·have : ¬ k < l.length := fun h1 => h ⟨h0, h1⟩
   simp [this]
  ·simp [h0]
 ·rfl
theorem Ie {l : List BD} {k : Nat} (h : k < l.length) : varsOf (l.take (k + 1)) = varsOf (l.take k) ++ (if l[k].kind = 2 then [l[k].s] else []) := by
 rw [List.take_succ_eq_append_getElem h, varsOf, List.filterMap_append]
 congr 1
 split <;> simp_all
theorem Ga {l : List BD} (hx : AE.bulk l ≤ 1099511627776) (k : Nat) (hk : k < l.length) : l[k].kids.length ≤ 1099511627776 ∧ l[k].s.size ≤ 1099511627776 := by
 have h1 := CY (List.getElem_mem hk)
 have h2 : AE.bulk l[k] = AE.bulk l[k].kind + AE.bulk l[k].n + AE.bulk l[k].s + AE.bulk l[k].kids + 1 := rfl
 have h3 := A2 l[k].kids
 have h4 : AE.bulk l[k].s = l[k].s.size + 1 := rfl
 omega
theorem Hc (l : List BD) : (varsOf l).length ≤ l.length := List.length_filterMap_le _ _
end Go.Proofs.YtoffpbehgncakaaGreat
set_option linter.unusedVariables false
set_option maxRecDepth 100000
namespace Go.Proofs.YtoffpbehgncakaaGreat
open Go.Proofs.YtoffpbehgncakaaGreat.Av

theorem KF : Tryz.prog.follows .mixedOrders = true := by kernel_rfl

def HW : Ir Tryz.prog 63 [(9,7777)] [] 2 := ⟨_, _, Tryz.func63, KF, by kernel_rfl, AA [] Tryz.progTables (by conv => lhs; cbv) (by kernel_rfl)⟩
def Gk : Ir Tryz.prog 108 [(29,7777)] [9999] 5 := ⟨_, _, Tryz.func108, KF, by kernel_rfl, AA [] Tryz.progTables (by conv => lhs; cbv) (by kernel_rfl)⟩
end Go.Proofs.YtoffpbehgncakaaGreat
set_option linter.unusedVariables false
set_option linter.unusedSimpArgs false
set_option maxRecDepth 100000
namespace Go.Proofs.YtoffpbehgncakaaGreat
open Go.RowKit Go.Proofs.YtoffpbehgncakaaGreat.Av Go.Proofs.YtoffpbehgncakaaGreat.Ml
open Go.Proofs.YtoffpbehgncakaaGreat.Av.AVal (av)

def Kf (n : Nat) (g : FuncId) (caps : List AV) (v5 v6 : Nat) (nx : Nat) : Hp :=
 [(5, ⟨v5, false, 3, 1, [.int .i64 nx]⟩), (6, ⟨v6, false, 100, 1, [.fn 108 [.ptr 5 v5 0 0, .obj [.int .i64 n], .obj [.fn g caps], .ptr 6 v6 0 0]]⟩)]
theorem Dx (n : Nat) (g : FuncId) (caps : List AV) (v5 v6 : Nat) (nx : Nat) : Kf n g caps v5 v6 nx = [(5, ⟨v5, false, 3, 1, [.int .i64 nx]⟩), (6, ⟨v6, false, 100, 1, [.fn 108 [.ptr 5 v5 0 0, .obj [.int .i64 n], .obj [.fn g caps], .ptr 6 v6 0 0]]⟩)] := eqq rfl
def Hq (n : Nat) (g : FuncId) (caps : List AV) (v5 v6 : Nat) (o : Option Nat) (r : AV) (hp' : Hp) : Prop :=
 ∃ nx', r = .bool o.isSome ∧ hp' = Kf n g caps v5 v6 nx' ∧ (∀ m, o = some m → nx' = m)
theorem Hq.of {n : Nat} {g : FuncId} {caps : List AV} {v5 v6 nx : Nat} {o : Option Nat} {b : Bool} (h : o.isSome = b) (hm : ∀ m, o = some m → nx = m) : Hq n g caps v5 v6 o (.bool b) (Kf n g caps v5 v6 nx) := ⟨nx, by rw [h], rfl, hm⟩
theorem Aal (K : Nat → List Int) (n : Nat) (hn : n ≤ 1099511627776) (g : FuncId) (caps : List AV) (hc : ∀ hp, caps.map (AV.Bu hp) = caps) (hK : ∀ i, i < n → (K i).length ≤ 1099511627776 ∧ AH Tryz.prog g (.int .i64 i :: caps) (.sl ((K i).map av))) (v5 v6 : Nat) :
  ∀ (f : Nat) (i : Int) (nx : Nat), nx ≤ n → n - nx < f → AW Tryz.prog 108 [.int .i64 i, .ptr 5 v5 0 0, .obj [.int .i64 n], .obj [.fn g caps], .ptr 6 v6 0 0] (Kf n g caps v5 v6 nx) (Hq n g caps v5 v6 (GF K n f i nx)) := by
 intro f
 induction f with
 | zero => intro i nx _ h; omega
 | succ f ih =>
  intro i nx hnx hf
  refine Gk.H rfl ?_
  simp +contextual -dsimp only [↓SD, SU, simprocAttr, Gk, Dx, hc]
  refine ⟨fun hi => ⟨fun hle => ?_, fun hle => ⟨by omega, ?_⟩⟩, fun hi => ?_⟩
  ·refine Ai.post (Kf n g caps v5 v6 nx) ?_
   simp +contextual -dsimp only [↓SD, SU, simprocAttr, Dx]
   refine Hq.of ?_ ?_ <;> simp [GF, Cl, hi, Nat.not_lt.2 hle]
  ·obtain ⟨hk1, hk2⟩ := hK nx (by omega)
   refine Ac _ hk2 ?_
   simp +contextual -dsimp only [↓SD, SU, simprocAttr, Aa]
   refine AB (X := Nat × Nat) (fun x => ⟨[(4, .ptr 6 v6 0 0), (21, .sl ((K nx).map av)), (22, .int .i64 (K nx).length), (23, .int .i64 x.1)], Kf n g caps v5 v6 x.2⟩) (fun x => x.1 ≤ (K nx).length ∧ nx < x.2 ∧ x.2 ≤ n ∧ Cy (Cl K n f) (K nx) (nx + 1) = Cy (Cl K n f) ((K nx).drop x.1) x.2) (fun x => (K nx).length - x.1) (0, nx + 1) ⟨Nat.zero_le _, by simp, by simp only; omega, rfl⟩ (by simp +contextual -dsimp only [↓SD, SU, simprocAttr]) (by simp +contextual -dsimp only [↓SD, SU, simprocAttr, Dx, Int.natCast_add]) ?_
   rintro ⟨j, m⟩ ⟨hj, hm1, hm2, he⟩
   simp only at hj hm1 hm2 he
   have hw : GF K n (f + 1) i nx = Cy (Cl K n f) ((K nx).drop j) m := by
    rw [GF, if_pos hi, Cl, if_pos (by omega), he]
   by_cases hlt : j < (K nx).length
   ·have e := getD_map av (K nx) j .top hlt
    rw [List.drop_eq_getElem_cons hlt, Cy] at he
    have hw' : GF K n (f + 1) i nx = match GF K n f (K nx)[j] m with | some m' => Cy (Cl K n f) ((K nx).drop (j + 1)) m' | none => none := by
     rw [hw, List.drop_eq_getElem_cons hlt, Cy, GF]
     split <;> rfl
    have C := ih (K nx)[j] m hm2 (by omega)
    simp +contextual -dsimp only [↓SD, SU, simprocAttr, Aa, e, Af, hlt, Dx, hc]
    refine Ad [5, 6] C (by simp +contextual -dsimp only [↓SD, SU, simprocAttr, Dx]) ?_
    rintro r hp' ⟨nx', rfl, rfl, hnx'⟩
    cases ho : GF K n f (K nx)[j] m with
    | none =>
     rw [ho] at hw'
     simp +contextual -dsimp only [↓SD, SU, simprocAttr, ho, Option.isSome_none]
     refine Ai.post (Kf n g caps v5 v6 nx') ?_
     simp +contextual -dsimp only [↓SD, SU, simprocAttr, Dx]
     rw [hw']
     exact Hq.of rfl (fun m h => by cases h)
    | some m' =>
     rw [ho] at hw'
     obtain rfl := hnx' m' ho
     have hm' : m < nx' ∧ nx' ≤ n := by
      unfold GF at ho
      split at ho
      ·exact I2 K n f m nx' ho
      ·cases ho
     simp +contextual -dsimp only [↓SD, SU, simprocAttr, ho, Option.isSome_some]
     refine ⟨by omega, Ai.le ⟨(j + 1, nx'), ⟨⟨hlt, by simp only; omega, hm'.2, ?_⟩, (by first | omega | (simp only; omega))⟩, rfl⟩ (by simp +contextual -dsimp only [↓SD, SU, simprocAttr, Int.natCast_add]) (by simp +contextual -dsimp only [↓SD, SU, simprocAttr, Dx])⟩
     rw [he]
     simp only at hw' ⊢
     rw [GF, if_pos hi, Cl, if_pos (by omega), he] at hw'
     exact hw'
   ·obtain rfl : j = (K nx).length := by omega
    rw [List.drop_length, Cy] at hw
    simp +contextual -dsimp only [↓SD, SU, simprocAttr, Aa, Nat.lt_irrefl]
    refine Ai.post (Kf n g caps v5 v6 m) ?_
    simp +contextual -dsimp only [↓SD, SU, simprocAttr, Dx]
    rw [hw]
    exact Hq.of rfl (fun m h => by cases h; rfl)
  ·refine Ai.post (Kf n g caps v5 v6 nx) ?_
   simp +contextual -dsimp only [↓SD, SU, simprocAttr, Dx]
   refine Hq.of ?_ ?_ <;> simp [GF, hi]

theorem M8 (K : Nat → List Int) (n : Nat) (hn : n ≤ 1099511627776) (g : FuncId) (caps : List AV) (hp : ∀ x ∈ caps, Ap x) (hc : ∀ hp, caps.map (AV.Bu hp) = caps) (hK : ∀ i, i < n → (K i).length ≤ 1099511627776 ∧ AH Tryz.prog g (.int .i64 i :: caps) (.sl ((K i).map av))) :
  AH Tryz.prog 63 [.int .i64 n, .fn g caps] (.bool (Eg K n)) := by
 refine HW.F rfl (by simp; exact ⟨Cr _, Ap.fn hp⟩) (Ap.bool _) ?_
 simp +contextual -dsimp only [↓SD, SU, simprocAttr, HW, hc]
 intro v5 v6
 have C := Aal K n hn g caps hc hK v5 v6 (n + 1) 0 0 (Nat.zero_le _) (by omega)
 refine Ad [5, 6] C (by simp +contextual -dsimp only [↓SD, SU, simprocAttr, Dx]) ?_
 rintro r hp' ⟨nx', rfl, rfl, hnx'⟩
 have e0 : GF K n (n + 1) 0 0 = Cl K n (n + 1) 0 := by rw [GF, if_pos (by rfl)]
 rw [e0] at hnx' ⊢
 cases ho : Cl K n (n + 1) 0 with
 | none =>
  simp +contextual -dsimp only [↓SD, SU, simprocAttr, ho, Option.isSome_none]
  simp [Eg, ho]
 | some m =>
  obtain rfl := hnx' m ho
  simp +contextual -dsimp only [↓SD, SU, simprocAttr, ho, Option.isSome_some, Dx]
  simp [Eg, ho]
end Go.Proofs.YtoffpbehgncakaaGreat
set_option linter.unusedVariables false
set_option linter.unusedSimpArgs false
set_option maxRecDepth 100000
namespace Go.Proofs.YtoffpbehgncakaaGreat
open Go.RowKit Go.Proofs.YtoffpbehgncakaaGreat.Av Go.Proofs.YtoffpbehgncakaaGreat.Ml
open Go.Proofs.YtoffpbehgncakaaGreat.Av.AVal (av)

set_option maxHeartbeats 4000000 in
theorem Qr (l : List BD) (n : BD) (hl : l.length ≤ 1099511627776) (hk : n.kids.length ≤ 1099511627776) (hs : n.s.size ≤ 1099511627776) (hin : n.kids.length = 1 → 0 ≤ n.kids.getD 0 0 ∧ n.kids.getD 0 0 < l.length) :
  AH Tryz.prog 74 [.agg [.sl (l.map av)], av n] (.bool (ES l n)) := by
 refine Ez.F rfl (by simp; exact ⟨Ap.agg (by simp; exact AQ l), AVal.clean n⟩) (Ap.bool _) ?_
 obtain ⟨kind, nn, s, kids⟩ := n
 simp only at hk hs hin ⊢
 rcases kids with _ | ⟨k0, _ | ⟨k1, _ | ⟨k2, ks⟩⟩⟩
 case cons.nil =>
  obtain ⟨g0, g1⟩ := hin rfl
  simp only [List.getD_cons_zero] at g0 g1
  have g2 : k0.toNat < l.length := by omega
  have e := Ji l default g2
  rw [Bw] at e
  simp +contextual -dsimp only [↓SD, SU, simprocAttr, Ez, Bw, Af, Aa, g0, g1, g2, e]
  (repeat' (first | intro _ | refine And.intro ?_ ?_))
  all_goals first | omega | skip
  all_goals first | (refine Ac _ (DW _ (by omega)) ?_; simp +contextual -dsimp only [↓SD, SU, simprocAttr, *]; (repeat' (first | intro _ | refine And.intro ?_ ?_))) | (refine Ac _ (Dn _ _ _) ?_; simp +contextual -dsimp only [↓SD, SU, simprocAttr, *]; (repeat' (first | intro _ | refine And.intro ?_ ?_))) | (refine Ac _ (Gp _ _ _ (by omega)) ?_; simp +contextual -dsimp only [↓SD, SU, simprocAttr, *]; (repeat' (first | intro _ | refine And.intro ?_ ?_))) | skip
  all_goals first | omega | (simp [ES, AM, g0, g1, *]; done) | trace_state
 all_goals
  simp +contextual -dsimp only [↓SD, SU, simprocAttr, Ez, Bw, Aa]
  (repeat' (first | intro _ | refine And.intro ?_ ?_))
  all_goals first | omega | skip
  all_goals first | (refine Ac _ (DW _ (by omega)) ?_; simp +contextual -dsimp only [↓SD, SU, simprocAttr, *]; (repeat' (first | intro _ | refine And.intro ?_ ?_))) | (refine Ac _ (Dn _ _ _) ?_; simp +contextual -dsimp only [↓SD, SU, simprocAttr, *]; (repeat' (first | intro _ | refine And.intro ?_ ?_))) | (refine Ac _ (Gp _ _ _ (by omega)) ?_; simp +contextual -dsimp only [↓SD, SU, simprocAttr, *]; (repeat' (first | intro _ | refine And.intro ?_ ?_))) | skip
  all_goals first | omega | (simp [ES, AM, *]; done) | trace_state

set_option maxHeartbeats 4000000 in
theorem Ss (l : List BD) (n : BD) (hl : l.length ≤ 1099511627776) (hk : n.kids.length ≤ 1099511627776) (hs : n.s.size ≤ 1099511627776) :
  AH Tryz.prog 158 [.agg [.sl (l.map av)], av n] (.bool (ES l n)) := by
 refine Ct.F rfl (by simp; exact ⟨Ap.agg (by simp; exact AQ l), AVal.clean n⟩) (Ap.bool _) ?_
 obtain ⟨kind, nn, s, kids⟩ := n
 simp only at hk hs ⊢
 rcases kids with _ | ⟨k0, _ | ⟨k1, _ | ⟨k2, ks⟩⟩⟩
 case cons.nil =>
  by_cases g : 0 ≤ k0 ∧ k0 < l.length
  ·obtain ⟨g0, g1⟩ := g
   have g2 : k0.toNat < l.length := by omega
   have e := Ji l default g2
   rw [Bw] at e
   simp +contextual -dsimp only [↓SD, SU, simprocAttr, Ct, Bw, Af, Aa, g0, g1, g2, e]
   (repeat' (first | intro _ | refine And.intro ?_ ?_))
   all_goals first | omega | skip
   all_goals first | (refine Ac _ (AZ _ (by omega)) ?_; simp +contextual -dsimp only [↓SD, SU, simprocAttr, *, Aa]; (repeat' (first | intro _ | refine And.intro ?_ ?_))) | (refine Ac _ (Ei _ _ _ (by omega)) ?_; simp +contextual -dsimp only [↓SD, SU, simprocAttr, *, Aa]; (repeat' (first | intro _ | refine And.intro ?_ ?_))) | skip
   all_goals first | omega | (simp [ES, AM, g0, g1, *]; done) | trace_state
  ·have ho : AM BD.kind l [k0] 5 = false := Qu (by simpa using g)
   by_cases g0 : 0 ≤ k0
   case' pos => have g1 : ¬ k0 < l.length := fun h => g ⟨g0, h⟩
   case' pos => simp +contextual -dsimp only [↓SD, SU, simprocAttr, Ct, Bw, Af, Aa, g0, g1]
   case' neg => simp +contextual -dsimp only [↓SD, SU, simprocAttr, Ct, Bw, Af, Aa, g0]
   all_goals clear g
   all_goals
    (repeat' (first | intro _ | refine And.intro ?_ ?_))
    all_goals first | omega | skip
    all_goals first | (refine Ac _ (AZ _ (by omega)) ?_; simp +contextual -dsimp only [↓SD, SU, simprocAttr, *, Aa]; (repeat' (first | intro _ | refine And.intro ?_ ?_))) | (refine Ac _ (Ei _ _ _ (by omega)) ?_; simp +contextual -dsimp only [↓SD, SU, simprocAttr, *, Aa]; (repeat' (first | intro _ | refine And.intro ?_ ?_))) | skip
    all_goals first | omega | (simp [ES, ho, *]; done) | trace_state
 case cons.cons.cons =>
  have q0 : ¬ ((ks.length + 1 + 1 + 1 : Nat) : Int) = 0 := by omega
  have q1 : ¬ ((ks.length + 1 + 1 + 1 : Nat) : Int) = 1 := by omega
  have q2 : ¬ ((ks.length + 1 + 1 + 1 : Nat) : Int) = 2 := by omega
  simp +contextual -dsimp only [↓SD, SU, simprocAttr, Ct, Bw, Aa, q0, q1, q2]
  (repeat' (first | intro _ | refine And.intro ?_ ?_))
  all_goals first | omega | skip
  all_goals first | (refine Ac _ (AZ _ (by omega)) ?_; simp +contextual -dsimp only [↓SD, SU, simprocAttr, *, Aa]; (repeat' (first | intro _ | refine And.intro ?_ ?_))) | (refine Ac _ (Ei _ _ _ (by omega)) ?_; simp +contextual -dsimp only [↓SD, SU, simprocAttr, *, Aa]; (repeat' (first | intro _ | refine And.intro ?_ ?_))) | skip
  all_goals first | omega | (simp [ES, AM, *]; done) | trace_state
 all_goals
  simp +contextual -dsimp only [↓SD, SU, simprocAttr, Ct, Bw, Aa]
  (repeat' (first | intro _ | refine And.intro ?_ ?_))
  all_goals first | omega | skip
  all_goals first | (refine Ac _ (AZ _ (by omega)) ?_; simp +contextual -dsimp only [↓SD, SU, simprocAttr, *, Aa]; (repeat' (first | intro _ | refine And.intro ?_ ?_))) | (refine Ac _ (Ei _ _ _ (by omega)) ?_; simp +contextual -dsimp only [↓SD, SU, simprocAttr, *, Aa]; (repeat' (first | intro _ | refine And.intro ?_ ?_))) | skip
  all_goals first | omega | (simp [ES, AM, *]; done) | trace_state
end Go.Proofs.YtoffpbehgncakaaGreat
