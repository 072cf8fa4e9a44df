/-
 RIGHT PATTERNS AND VALUES, told plainly. Conditions: none.
-/
import Derived.Test.YtppjinmlfcokaaaGreatJWords
import Derived.Test.YtppjinmlfcokaaaGreatJJ20
import Derived.Test.YtppjinmlfcokaaaGreatJJ08
import Derived.Test.YtppjinmlfcokaaaGreatProg
import Derived.Test.YtppjinmlfcokaaaGreatJAvDraw
import Derived.Test.YtppjinmlfcokaaaGreatJJ07
set_option linter.unusedVariables false
namespace Go.Proofs.YtppjinmlfcokaaaGreat
open Go.RowKit Go.Proofs.YtppjinmlfcokaaaGreat.Av Go.Proofs.YtppjinmlfcokaaaGreat.Ml
open Go.Proofs.YtppjinmlfcokaaaGreat.Av.AVal (av)

def AH {α : Type} [Inhabited α] (kd : α → Int) (l : List α) (kids : List Int) (d : Int) : Bool :=
 match kids with
 | [k] => decide (0 ≤ k) && decide (k < l.length) && decide (kd (l.getD k.toNat default) = d)
 | _ => false
def FR (l : List Bu) (n : Bu) : Bool :=
 if n.kind = 1 ∨ n.kind = 6 then decide (n.kids.length = 0) && decide (n.n = 0) && decide (n.s = bs [])
 else if n.kind = 2 then decide (n.kids.length = 0) && decide (n.n = 0) && FV n.s
 else if n.kind = 3 then decide (n.kids.length = 0) && decide (n.s = bs []) && (decide (-4611686018427387903 ≤ n.n) && decide (n.n ≤ 4611686018427387903))
 else if n.kind = 4 then decide (n.n = 0) && Kw n.s n.kids.length (AH Bu.kind l n.kids 5)
 else if n.kind = 5 then decide (n.kids.length = 2) && decide (n.n = 0) && decide (n.s = bs [])
 else false
def varsOf (l : List Bu) : List ByteArray := l.filterMap fun n => if n.kind = 2 then some n.s else none
def IV (l : List Bu) (i : Nat) : Bool := FR l (l.getD i default) && !(decide ((l.getD i default).kind = 2) && (varsOf (l.take i)).any fun x => decide ((l.getD i default).s = x))
def Fg (l : List Bu) (i : Nat) : List Int := (l.getD i default).kids
def Gk (l : List Bu) : Bool := (decide (1 ≤ (l.length : Int)) && decide ((l.length : Int) ≤ 600)) && Fc (Fg l) l.length && allI (IV l) l.length
theorem Tt {α : Type} [Inhabited α] {kd : α → Int} {l : List α} {kids : List Int} {d : Int} (h : ¬ (0 ≤ kids.getD 0 0 ∧ kids.getD 0 0 < l.length)) : AH kd l kids d = false := by
 unfold AH; split
 ·rename_i k
  simp only [List.getD_cons_zero] at h
  by_cases h0 : 0 ≤ k
  ·have : ¬ k < l.length := fun h1 => h ⟨h0, h1⟩
   simp [this]
  ·simp [h0]
 ·rfl
theorem Ku {l : List Bu} {k : Nat} (h : k < l.length) : varsOf (l.take (k + 1)) = varsOf (l.take k) ++ (if l[k].kind = 2 then [l[k].s] else []) := by
 rw [List.take_succ_eq_append_getElem h, varsOf, List.filterMap_append]
 congr 1
 split <;> simp_all
theorem HY {l : List Bu} (hx : Ac.bulk l ≤ 4294967296) (k : Nat) (hk : k < l.length) : l[k].kids.length ≤ 4294967296 ∧ l[k].s.size ≤ 4294967296 := by
 have h1 := AG (List.getElem_mem hk)
 have h2 : Ac.bulk l[k] = Ac.bulk l[k].kind + Ac.bulk l[k].n + Ac.bulk l[k].s + Ac.bulk l[k].kids + 1 := rfl
 have h3 := Ag l[k].kids
 have h4 : Ac.bulk l[k].s = l[k].s.size + 1 := rfl
 omega
theorem JB (l : List Bu) : (varsOf l).length ≤ l.length := List.length_filterMap_le _ _
end Go.Proofs.YtppjinmlfcokaaaGreat
set_option linter.unusedVariables false
set_option maxRecDepth 100000
namespace Go.Proofs.YtppjinmlfcokaaaGreat
open Go.Proofs.YtppjinmlfcokaaaGreat.Av

theorem Nl : Tryz.prog.follows .mixedOrders = true := by kernel_rfl

def Kk : Ir Tryz.prog 93 [(9,7777)] [] 2 := ⟨_, _, Tryz.func93, Nl, by kernel_rfl, Ah [] Tryz.progTables (by conv => lhs; cbv) (by kernel_rfl)⟩
def Is : Ir Tryz.prog 152 [(29,7777)] [9999] 5 := ⟨_, _, Tryz.func152, Nl, by kernel_rfl, Ah [] Tryz.progTables (by conv => lhs; cbv) (by kernel_rfl)⟩
end Go.Proofs.YtppjinmlfcokaaaGreat
set_option linter.unusedVariables false
set_option linter.unusedSimpArgs false
set_option maxRecDepth 100000
namespace Go.Proofs.YtppjinmlfcokaaaGreat
open Go.RowKit Go.Proofs.YtppjinmlfcokaaaGreat.Av Go.Proofs.YtppjinmlfcokaaaGreat.Ml
open Go.Proofs.YtppjinmlfcokaaaGreat.Av.AVal (av)

def MB (n : Nat) (g : FuncId) (caps : List AV) (v5 v6 : Nat) (nx : Nat) : Hp :=
 [(5, ⟨v5, false, 3, 1, [.int .i64 nx]⟩), (6, ⟨v6, false, 185, 1, [.fn 152 [.ptr 5 v5 0 0, .obj [.int .i64 n], .obj [.fn g caps], .ptr 6 v6 0 0]]⟩)]
theorem Ex (n : Nat) (g : FuncId) (caps : List AV) (v5 v6 : Nat) (nx : Nat) : MB n g caps v5 v6 nx = [(5, ⟨v5, false, 3, 1, [.int .i64 nx]⟩), (6, ⟨v6, false, 185, 1, [.fn 152 [.ptr 5 v5 0 0, .obj [.int .i64 n], .obj [.fn g caps], .ptr 6 v6 0 0]]⟩)] := eqq rfl
def JU (n : Nat) (g : FuncId) (caps : List AV) (v5 v6 : Nat) (o : Option Nat) (r : AV) (hp' : Hp) : Prop :=
 ∃ nx', r = .bool o.isSome ∧ hp' = MB n g caps v5 v6 nx' ∧ (∀ m, o = some m → nx' = m)
theorem JU.of {n : Nat} {g : FuncId} {caps : List AV} {v5 v6 nx : Nat} {o : Option Nat} {b : Bool} (h : o.isSome = b) (hm : ∀ m, o = some m → nx = m) : JU n g caps v5 v6 o (.bool b) (MB n g caps v5 v6 nx) := ⟨nx, by rw [h], rfl, hm⟩
theorem AdM (K : Nat → List Int) (n : Nat) (hn : n ≤ 4294967296) (g : FuncId) (caps : List AV) (hc : ∀ hp, caps.map (AV.B7 hp) = caps) (hK : ∀ i, i < n → (K i).length ≤ 4294967296 ∧ Ak Tryz.prog g (.int .i64 i :: caps) (.sl ((K i).map av))) (v5 v6 : Nat) :
  ∀ (f : Nat) (i : Int) (nx : Nat), nx ≤ n → n - nx < f → AU Tryz.prog 152 [.int .i64 i, .ptr 5 v5 0 0, .obj [.int .i64 n], .obj [.fn g caps], .ptr 6 v6 0 0] (MB n g caps v5 v6 nx) (JU n g caps v5 v6 (IK K n f i nx)) := by
 intro f
 induction f with
 | zero => intro i nx _ h; omega
 | succ f ih =>
  intro i nx hnx hf
  refine Is.H rfl ?_
  simp +contextual -dsimp only [↓SD, SU, simprocAttr, Is, Ex, hc]
  refine ⟨fun hi => ⟨fun hle => ?_, fun hle => ⟨by omega, ?_⟩⟩, fun hi => ?_⟩
  ·refine Af.post (MB n g caps v5 v6 nx) ?_
   simp +contextual -dsimp only [↓SD, SU, simprocAttr, Ex]
   refine JU.of ?_ ?_ <;> simp [IK, Cv, hi, Nat.not_lt.2 hle]
  ·obtain ⟨hk1, hk2⟩ := hK nx (by omega)
   refine Ab _ hk2 ?_
   simp +contextual -dsimp only [↓SD, SU, simprocAttr, Aa]
   refine Am (X := Nat × Nat) (fun x => ⟨[(4, .ptr 6 v6 0 0), (21, .sl ((K nx).map av)), (22, .int .i64 (K nx).length), (23, .int .i64 x.1)], MB n g caps v5 v6 x.2⟩) (fun x => x.1 ≤ (K nx).length ∧ nx < x.2 ∧ x.2 ≤ n ∧ Dj (Cv K n f) (K nx) (nx + 1) = Dj (Cv K n f) ((K nx).drop x.1) x.2) (fun x => (K nx).length - x.1) (0, nx + 1) ⟨Nat.zero_le _, by simp, by simp only; omega, rfl⟩ (by simp +contextual -dsimp only [↓SD, SU, simprocAttr]) (by simp +contextual -dsimp only [↓SD, SU, simprocAttr, Ex, Int.natCast_add]) ?_
   rintro ⟨j, m⟩ ⟨hj, hm1, hm2, he⟩
   simp only at hj hm1 hm2 he
   have hw : IK K n (f + 1) i nx = Dj (Cv K n f) ((K nx).drop j) m := by
    rw [IK, if_pos hi, Cv, if_pos (by omega), he]
   by_cases hlt : j < (K nx).length
   ·have e := getD_map av (K nx) j .top hlt
    rw [List.drop_eq_getElem_cons hlt, Dj] at he
    have hw' : IK K n (f + 1) i nx = match IK K n f (K nx)[j] m with | some m' => Dj (Cv K n f) ((K nx).drop (j + 1)) m' | none => none := by
     rw [hw, List.drop_eq_getElem_cons hlt, Dj, IK]
     split <;> rfl
    have C := ih (K nx)[j] m hm2 (by omega)
    simp +contextual -dsimp only [↓SD, SU, simprocAttr, Aa, e, A7, hlt, Ex, hc]
    refine BB [5, 6] C (by simp +contextual -dsimp only [↓SD, SU, simprocAttr, Ex]) ?_
    rintro r hp' ⟨nx', rfl, rfl, hnx'⟩
    cases ho : IK K n f (K nx)[j] m with
    | none =>
     rw [ho] at hw'
     simp +contextual -dsimp only [↓SD, SU, simprocAttr, ho, Option.isSome_none]
     refine Af.post (MB n g caps v5 v6 nx') ?_
     simp +contextual -dsimp only [↓SD, SU, simprocAttr, Ex]
     rw [hw']
     exact JU.of rfl (fun m h => by cases h)
    | some m' =>
     rw [ho] at hw'
     obtain rfl := hnx' m' ho
     have hm' : m < nx' ∧ nx' ≤ n := by
      unfold IK at ho
      split at ho
      ·exact HS K n f m nx' ho
      ·cases ho
     simp +contextual -dsimp only [↓SD, SU, simprocAttr, ho, Option.isSome_some]
     refine ⟨by omega, Af.le ⟨(j + 1, nx'), ⟨⟨hlt, by simp only; omega, hm'.2, ?_⟩, (by first | omega | (simp only; omega))⟩, rfl⟩ (by simp +contextual -dsimp only [↓SD, SU, simprocAttr, Int.natCast_add]) (by simp +contextual -dsimp only [↓SD, SU, simprocAttr, Ex])⟩
     rw [he]
     simp only at hw' ⊢
     rw [IK, if_pos hi, Cv, if_pos (by omega), he] at hw'
     exact hw'
   ·obtain rfl : j = (K nx).length := by omega
    rw [List.drop_length, Dj] at hw
    simp +contextual -dsimp only [↓SD, SU, simprocAttr, Aa, Nat.lt_irrefl]
    refine Af.post (MB n g caps v5 v6 m) ?_
    simp +contextual -dsimp only [↓SD, SU, simprocAttr, Ex]
    rw [hw]
    exact JU.of rfl (fun m h => by cases h; rfl)
  ·refine Af.post (MB n g caps v5 v6 nx) ?_
   simp +contextual -dsimp only [↓SD, SU, simprocAttr, Ex]
   refine JU.of ?_ ?_ <;> simp [IK, hi]

theorem P9 (K : Nat → List Int) (n : Nat) (hn : n ≤ 4294967296) (g : FuncId) (caps : List AV) (hp : ∀ x ∈ caps, Ae x) (hc : ∀ hp, caps.map (AV.B7 hp) = caps) (hK : ∀ i, i < n → (K i).length ≤ 4294967296 ∧ Ak Tryz.prog g (.int .i64 i :: caps) (.sl ((K i).map av))) :
  Ak Tryz.prog 93 [.int .i64 n, .fn g caps] (.bool (Fc K n)) := by
 refine Kk.F rfl (by simp; exact ⟨Bo _, Ae.fn hp⟩) (Ae.bool _) ?_
 simp +contextual -dsimp only [↓SD, SU, simprocAttr, Kk, hc]
 intro v5 v6
 have C := AdM K n hn g caps hc hK v5 v6 (n + 1) 0 0 (Nat.zero_le _) (by omega)
 refine BB [5, 6] C (by simp +contextual -dsimp only [↓SD, SU, simprocAttr, Ex]) ?_
 rintro r hp' ⟨nx', rfl, rfl, hnx'⟩
 have e0 : IK K n (n + 1) 0 0 = Cv K n (n + 1) 0 := by rw [IK, if_pos (by rfl)]
 rw [e0] at hnx' ⊢
 cases ho : Cv K n (n + 1) 0 with
 | none =>
  simp +contextual -dsimp only [↓SD, SU, simprocAttr, ho, Option.isSome_none]
  simp [Fc, ho]
 | some m =>
  obtain rfl := hnx' m ho
  simp +contextual -dsimp only [↓SD, SU, simprocAttr, ho, Option.isSome_some, Ex]
  simp [Fc, ho]
end Go.Proofs.YtppjinmlfcokaaaGreat
set_option linter.unusedVariables false
set_option linter.unusedSimpArgs false
set_option maxRecDepth 100000
namespace Go.Proofs.YtppjinmlfcokaaaGreat
open Go.RowKit Go.Proofs.YtppjinmlfcokaaaGreat.Av Go.Proofs.YtppjinmlfcokaaaGreat.Ml
open Go.Proofs.YtppjinmlfcokaaaGreat.Av.AVal (av)

set_option maxHeartbeats 4000000 in
theorem Tq (l : List Bu) (n : Bu) (hl : l.length ≤ 4294967296) (hk : n.kids.length ≤ 4294967296) (hs : n.s.size ≤ 4294967296) (hin : n.kids.length = 1 → 0 ≤ n.kids.getD 0 0 ∧ n.kids.getD 0 0 < l.length) :
  Ak Tryz.prog 105 [.agg [.sl (l.map av)], av n] (.bool (FR l n)) := by
 refine F4.F rfl (by simp; exact ⟨Ae.agg (by simp; exact Ao l), AVal.clean n⟩) (Ae.bool _) ?_
 obtain ⟨kind, nn, s, kids⟩ := n
 simp only at hk hs hin ⊢
 rcases kids with _ | ⟨k0, _ | ⟨k1, _ | ⟨k2, ks⟩⟩⟩
 case cons.nil =>
  obtain ⟨g0, g1⟩ := hin rfl
  simp only [List.getD_cons_zero] at g0 g1
  have g2 : k0.toNat < l.length := by omega
  have e := Lw l default g2
  rw [A3] at e
  simp +contextual -dsimp only [↓SD, SU, simprocAttr, F4, A3, A7, Aa, g0, g1, g2, e]
  (repeat' (first | intro _ | refine And.intro ?_ ?_))
  all_goals first | omega | skip
  all_goals first | (refine Ab _ (Fj _ (by omega)) ?_; simp +contextual -dsimp only [↓SD, SU, simprocAttr, *]; (repeat' (first | intro _ | refine And.intro ?_ ?_))) | (refine Ab _ (EF _ _ _) ?_; simp +contextual -dsimp only [↓SD, SU, simprocAttr, *]; (repeat' (first | intro _ | refine And.intro ?_ ?_))) | (refine Ab _ (Ix _ _ _ (by omega)) ?_; simp +contextual -dsimp only [↓SD, SU, simprocAttr, *]; (repeat' (first | intro _ | refine And.intro ?_ ?_))) | skip
  all_goals first | omega | (simp [FR, AH, g0, g1, *]; done) | trace_state
 all_goals
  simp +contextual -dsimp only [↓SD, SU, simprocAttr, F4, A3, Aa]
  (repeat' (first | intro _ | refine And.intro ?_ ?_))
  all_goals first | omega | skip
  all_goals first | (refine Ab _ (Fj _ (by omega)) ?_; simp +contextual -dsimp only [↓SD, SU, simprocAttr, *]; (repeat' (first | intro _ | refine And.intro ?_ ?_))) | (refine Ab _ (EF _ _ _) ?_; simp +contextual -dsimp only [↓SD, SU, simprocAttr, *]; (repeat' (first | intro _ | refine And.intro ?_ ?_))) | (refine Ab _ (Ix _ _ _ (by omega)) ?_; simp +contextual -dsimp only [↓SD, SU, simprocAttr, *]; (repeat' (first | intro _ | refine And.intro ?_ ?_))) | skip
  all_goals first | omega | (simp [FR, AH, *]; done) | trace_state

set_option maxHeartbeats 4000000 in
theorem VV (l : List Bu) (n : Bu) (hl : l.length ≤ 4294967296) (hk : n.kids.length ≤ 4294967296) (hs : n.s.size ≤ 4294967296) :
  Ak Tryz.prog 170 [.agg [.sl (l.map av)], av n] (.bool (FR l n)) := by
 refine Dr.F rfl (by simp; exact ⟨Ae.agg (by simp; exact Ao l), AVal.clean n⟩) (Ae.bool _) ?_
 obtain ⟨kind, nn, s, kids⟩ := n
 simp only at hk hs ⊢
 rcases kids with _ | ⟨k0, _ | ⟨k1, _ | ⟨k2, ks⟩⟩⟩
 case cons.nil =>
  by_cases g : 0 ≤ k0 ∧ k0 < l.length
  ·obtain ⟨g0, g1⟩ := g
   have g2 : k0.toNat < l.length := by omega
   have e := Lw l default g2
   rw [A3] at e
   simp +contextual -dsimp only [↓SD, SU, simprocAttr, Dr, A3, A7, Aa, g0, g1, g2, e]
   (repeat' (first | intro _ | refine And.intro ?_ ?_))
   all_goals first | omega | skip
   all_goals first | (refine Ab _ (A4 _ (by omega)) ?_; simp +contextual -dsimp only [↓SD, SU, simprocAttr, *, Aa]; (repeat' (first | intro _ | refine And.intro ?_ ?_))) | (refine Ab _ (FF _ _ _ (by omega)) ?_; simp +contextual -dsimp only [↓SD, SU, simprocAttr, *, Aa]; (repeat' (first | intro _ | refine And.intro ?_ ?_))) | skip
   all_goals first | omega | (simp [FR, AH, g0, g1, *]; done) | trace_state
  ·have ho : AH Bu.kind l [k0] 5 = false := Tt (by simpa using g)
   by_cases g0 : 0 ≤ k0
   case' pos => have g1 : ¬ k0 < l.length := fun h => g ⟨g0, h⟩
   case' pos => simp +contextual -dsimp only [↓SD, SU, simprocAttr, Dr, A3, A7, Aa, g0, g1]
   case' neg => simp +contextual -dsimp only [↓SD, SU, simprocAttr, Dr, A3, A7, Aa, g0]
   all_goals clear g
   all_goals
    (repeat' (first | intro _ | refine And.intro ?_ ?_))
    all_goals first | omega | skip
    all_goals first | (refine Ab _ (A4 _ (by omega)) ?_; simp +contextual -dsimp only [↓SD, SU, simprocAttr, *, Aa]; (repeat' (first | intro _ | refine And.intro ?_ ?_))) | (refine Ab _ (FF _ _ _ (by omega)) ?_; simp +contextual -dsimp only [↓SD, SU, simprocAttr, *, Aa]; (repeat' (first | intro _ | refine And.intro ?_ ?_))) | skip
    all_goals first | omega | (simp [FR, ho, *]; done) | trace_state
 case cons.cons.cons =>
  have q0 : ¬ ((ks.length + 1 + 1 + 1 : Nat) : Int) = 0 := by omega
  have q1 : ¬ ((ks.length + 1 + 1 + 1 : Nat) : Int) = 1 := by omega
  have q2 : ¬ ((ks.length + 1 + 1 + 1 : Nat) : Int) = 2 := by omega
  simp +contextual -dsimp only [↓SD, SU, simprocAttr, Dr, A3, Aa, q0, q1, q2]
  (repeat' (first | intro _ | refine And.intro ?_ ?_))
  all_goals first | omega | skip
  all_goals first | (refine Ab _ (A4 _ (by omega)) ?_; simp +contextual -dsimp only [↓SD, SU, simprocAttr, *, Aa]; (repeat' (first | intro _ | refine And.intro ?_ ?_))) | (refine Ab _ (FF _ _ _ (by omega)) ?_; simp +contextual -dsimp only [↓SD, SU, simprocAttr, *, Aa]; (repeat' (first | intro _ | refine And.intro ?_ ?_))) | skip
  all_goals first | omega | (simp [FR, AH, *]; done) | trace_state
 all_goals
  simp +contextual -dsimp only [↓SD, SU, simprocAttr, Dr, A3, Aa]
  (repeat' (first | intro _ | refine And.intro ?_ ?_))
  all_goals first | omega | skip
  all_goals first | (refine Ab _ (A4 _ (by omega)) ?_; simp +contextual -dsimp only [↓SD, SU, simprocAttr, *, Aa]; (repeat' (first | intro _ | refine And.intro ?_ ?_))) | (refine Ab _ (FF _ _ _ (by omega)) ?_; simp +contextual -dsimp only [↓SD, SU, simprocAttr, *, Aa]; (repeat' (first | intro _ | refine And.intro ?_ ?_))) | skip
  all_goals first | omega | (simp [FR, AH, *]; done) | trace_state
end Go.Proofs.YtppjinmlfcokaaaGreat
set_option linter.unusedVariables false
set_option linter.unusedSimpArgs false
set_option maxRecDepth 100000
namespace Go.Proofs.YtppjinmlfcokaaaGreat
open Go.RowKit Go.Proofs.YtppjinmlfcokaaaGreat.Av Go.Proofs.YtppjinmlfcokaaaGreat.Ml
open Go.Proofs.YtppjinmlfcokaaaGreat.Av.AVal (av)

theorem Abb (l : List Bu) (i : Nat) (hi : i < l.length) : Ak Tryz.prog 104 [.int .i64 i, .obj [.sl (l.map av)]] (.sl ((Fg l i).map av)) := by
 have hc : Ae (.obj [.sl (l.map av)]) := Ae.obj (by simp; exact Ao l)
 refine Kl.F rfl (by simp; exact ⟨Bo _, hc⟩) (Ao _) ?_
 have e := getD_map av l i .top hi
 simp +contextual -dsimp only [↓SD, SU, simprocAttr, Kl, Aa, e, A3, hi, Fg, ES hi]

theorem LZ {l : List Bu} (h : ¬ (1 ≤ (l.length : Int) ∧ (l.length : Int) ≤ 600)) : Gk l = false := by
 cases hb : Gk l with
 | false => rfl
 | true => simp only [Gk, Bool.and_eq_true, decide_eq_true_eq] at hb; exact absurd hb.1.1 h
theorem R2 {l : List Bu} (h : Fc (Fg l) l.length = false) : Gk l = false := by simp [Gk, h]
theorem O2 {l : List Bu} {k : Nat} (h : k < l.length) (hb : IV l k = false) : Gk l = false := by
 unfold Gk; rw [YA h hb, Bool.and_false]
theorem Zk {l : List Bu} (h1 : 1 ≤ l.length) (h2 : l.length ≤ 600) (h3 : Fc (Fg l) l.length = true) (h4 : ∀ k, k < l.length → IV l k = true) : Gk l = true := by
 simp only [Gk, Bool.and_eq_true, decide_eq_true_eq, W8]
 exact ⟨⟨by omega, h3⟩, h4⟩

theorem TM (l : List Bu) (hx : Ac.bulk l ≤ 4294967296) : Ak Tryz.prog 52 [.agg [.sl (l.map av)]] (.bool (Gk l)) := by
 have hl := Ag l
 have hc : Ae (.obj [.sl (l.map av)]) := Ae.obj (by simp; exact Ao l)
 refine LM.F rfl (by simp; exact Ae.agg (by simp; exact Ao l)) (Ae.bool _) ?_
 simp +contextual -dsimp only [↓SD, SU, simprocAttr, LM, Aa]
 have C1 := EF (l.length : Int) 1 600
 by_cases hsm : 1 ≤ (l.length : Int) ∧ (l.length : Int) ≤ 600
 ·rw [decide_eq_true hsm.1, decide_eq_true hsm.2] at C1
  refine Ab _ C1 ?_
  simp +contextual -dsimp only [↓SD, SU, simprocAttr, Aa]
  have C2 := P9 (Fg l) l.length (by omega) 104 [.obj [.sl (l.map av)]] (by simp; exact hc) (by intro hp; rfl) (fun i hi => ⟨by
   have := (HY hx i hi).1
   rw [Fg, ES hi]; exact this, Abb l i hi⟩)
  cases ht : Fc (Fg l) l.length with
  | false =>
   rw [ht] at C2
   refine Ab _ C2 ?_
   simp +contextual -dsimp only [↓SD, SU, simprocAttr, R2 ht]
  | true =>
   rw [ht] at C2
   refine Ab _ C2 ?_
   simp +contextual -dsimp only [↓SD, SU, simprocAttr, Aa]
   intro v
   refine Am (X := Nat × Nat) (fun x => ⟨[(1, .obj [.sl (l.map av)]), (3, .row 19 x.2 (varsOf (l.take x.1)).length), (21, .sl (l.map av)), (22, .int .i64 l.length), (23, .int .i64 x.1)], [(19, ⟨x.2, false, 9, 1, (varsOf (l.take x.1)).map av⟩)]⟩) (fun x => x.1 ≤ l.length ∧ ∀ i, i < x.1 → IV l i = true) (fun x => l.length - x.1) (0, v) ⟨Nat.zero_le _, fun i h => by omega⟩ (by simp +contextual -dsimp only [↓SD, SU, simprocAttr, varsOf, List.filterMap_nil]) (by simp +contextual -dsimp only [↓SD, SU, simprocAttr, varsOf, List.filterMap_nil]) ?_
   rintro ⟨k, u⟩ ⟨hk, hp⟩
   simp only at hk hp
   by_cases hlt : k < l.length
   ·have e := getD_map av l k .top hlt
    obtain ⟨s1, s2⟩ := HY hx k hlt
    have hin : l[k].kids.length = 1 → 0 ≤ l[k].kids.getD 0 0 ∧ l[k].kids.getD 0 0 < l.length := fun h1 => by
     have := DM ht hlt (k := l[k].kids.getD 0 0) (by
      simp only [Fg, ES hlt]
      rw [ES (by omega)]
      exact List.getElem_mem _)
     omega
    have C3 := Tq l l[k] (by omega) (by omega) (by omega) hin
    have C4 := Gc (varsOf (l.take k)) l[k].s (by have := JB (l.take k); simp at this; omega)
    have hI : IV l k = (FR l l[k] && !(decide (l[k].kind = 2) && (varsOf (l.take k)).any fun x => decide (l[k].s = x))) := by simp only [IV, ES hlt]
    have hv := Ku hlt
    have hvl := JB (l.take k)
    rw [List.length_take] at hvl
    generalize l[k] = a at *
    rw [A3] at C3
    simp +contextual -dsimp only [↓SD, SU, simprocAttr, Aa, hlt, e, A3]
    intro w
    cases hb : FR l a with
    | false =>
     rw [hb] at C3
     refine Ab _ C3 ?_
     simp +contextual -dsimp only [↓SD, SU, simprocAttr]
     rw [O2 hlt (by rw [hI, hb]; rfl)]
    | true =>
     rw [hb] at C3
     refine Ab _ C3 ?_
     simp +contextual -dsimp only [↓SD, SU, simprocAttr]
     refine ⟨fun hk2 => ?_, fun hk2 => ?_⟩
     ·refine Cd [19] C4 rfl (by simp +contextual -dsimp only [↓SD, SU, simprocAttr, AK, List.take_length, List.length_map]; simp [List.take_of_length_le]) ?_
      simp +contextual -dsimp only [↓SD, SU, simprocAttr, hk2, Aa]
      refine ⟨fun hc => ?_, fun hc => ?_⟩
      ·rw [O2 hlt (by rw [hI, hb, hk2, hc]; rfl)]
      ·have hIk : IV l k = true := by rw [hI, hb, hk2, hc]; rfl
       rw [if_pos hk2] at hv
       (repeat' (first | intro _ | refine And.intro ?_ ?_))
       all_goals first | omega | (unfold maxLen; omega) | skip
       rename_i u'
       exact Af.le ⟨(k + 1, u'), ⟨⟨hlt, fun i hi => (Nat.lt_succ_iff_lt_or_eq.1 hi).elim (hp i) (fun e => e ▸ hIk)⟩, (by first | omega | (simp only; omega))⟩, rfl⟩ (by simp +contextual -dsimp only [↓SD, SU, simprocAttr, Int.natCast_add, hv, List.length_append]) (by simp +contextual -dsimp only [↓SD, SU, simprocAttr, hv, AK, IL, List.map_append, NV])
     ·have hIk : IV l k = true := by rw [hI, hb, decide_eq_false hk2]; rfl
      rw [if_neg hk2, List.append_nil] at hv
      refine ⟨by omega, Af.le ⟨(k + 1, u), ⟨⟨hlt, fun i hi => (Nat.lt_succ_iff_lt_or_eq.1 hi).elim (hp i) (fun e => e ▸ hIk)⟩, (by first | omega | (simp only; omega))⟩, rfl⟩ (by simp +contextual -dsimp only [↓SD, SU, simprocAttr, Int.natCast_add, hv]) (by simp +contextual -dsimp only [↓SD, SU, simprocAttr, hv])⟩
   ·obtain rfl : k = l.length := by omega
    simp +contextual -dsimp only [↓SD, SU, simprocAttr, Aa, Nat.lt_irrefl]
    rw [Zk (by omega) (by omega) ht hp]
 ·have hf : (decide (1 ≤ (l.length : Int)) && decide ((l.length : Int) ≤ 600)) = false := by
   rw [Bool.and_eq_false_iff, decide_eq_false_iff_not, decide_eq_false_iff_not]; omega
  rw [hf] at C1
  refine Ab _ C1 ?_
  simp +contextual -dsimp only [↓SD, SU, simprocAttr, LZ hsm]

def IH (o : Option Nat) : Int := match o with | some m => (m : Int) | none => -1
theorem X8 (l : List Bu) (hx : Ac.bulk l ≤ 4294967296) : ∀ (f i : Nat), l.length - i < f → i ≤ 4294967296 → Ak Tryz.prog 171 [.agg [.sl (l.map av)], .int .i64 i] (.int .i64 (IH (Cv (Fg l) l.length f i))) := by
 have hl := Ag l
 intro f
 induction f with
 | zero => intro i h; omega
 | succ f ih =>
  intro i hf hi0
  refine GV.F rfl (by simp; exact ⟨Ae.agg (by simp; exact Ao l), Bo _⟩) (Bo _) ?_
  by_cases hi : i < l.length
  ·have e := getD_map av l i .top hi
   have hs := (HY hx i hi).1
   have hK : Fg l i = l[i].kids := by rw [Fg, ES hi]
   have hE : Cv (Fg l) l.length (f + 1) i = Dj (Cv (Fg l) l.length f) l[i].kids (i + 1) := by rw [Cv, if_pos hi, hK]
   rw [hE]
   generalize l[i] = a at *
   simp +contextual -dsimp only [↓SD, SU, simprocAttr, GV, Aa, hi, e, A3, Nat.not_le]
   refine ⟨by omega, by omega, ?_⟩
   refine Am (X := Nat × Nat) (fun x => ⟨[(2, .obj [.sl (l.map av)]), (5, .int .i64 x.2), (20, .sl (a.kids.map av)), (21, .int .i64 a.kids.length), (22, .int .i64 x.1)], []⟩) (fun x => x.1 ≤ a.kids.length ∧ i < x.2 ∧ x.2 ≤ l.length ∧ Dj (Cv (Fg l) l.length f) a.kids (i + 1) = Dj (Cv (Fg l) l.length f) (a.kids.drop x.1) x.2) (fun x => a.kids.length - x.1) (0, i + 1) ⟨Nat.zero_le _, by simp, by simp only; omega, rfl⟩ (by simp +contextual -dsimp only [↓SD, SU, simprocAttr, Int.natCast_add]) trivial ?_
   rintro ⟨j, m⟩ ⟨hj, hm1, hm2, he⟩
   simp only at hj hm1 hm2 he
   by_cases hlt : j < a.kids.length
   ·have e2 := getD_map av a.kids j .top hlt
    rw [List.drop_eq_getElem_cons hlt, Dj] at he
    have C := ih m (by omega) (by omega)
    by_cases hkm : a.kids[j] = (m : Int)
    ·rw [if_pos hkm] at he
     simp +contextual -dsimp only [↓SD, SU, simprocAttr, Aa, hlt, e2, A7, hkm]
     refine Ab _ C ?_
     cases hm' : Cv (Fg l) l.length f m with
     | none =>
      rw [hm'] at he
      simp +contextual -dsimp only [↓SD, SU, simprocAttr, IH]
      rw [he]
     | some m' =>
      rw [hm'] at he
      have := HS (Fg l) l.length f m m' hm'
      have hneg : ¬ ((m' : Int) < 0) := by omega
      simp +contextual -dsimp only [↓SD, SU, simprocAttr, IH, hneg]
      refine ⟨by omega, Af.le ⟨(j + 1, m'), ⟨⟨hlt, by simp only; omega, this.2, he⟩, (by first | omega | (simp only; omega))⟩, rfl⟩ (by simp +contextual -dsimp only [↓SD, SU, simprocAttr, Int.natCast_add]) trivial⟩
    ·rw [if_neg hkm] at he
     simp +contextual -dsimp only [↓SD, SU, simprocAttr, Aa, hlt, e2, A7, hkm]
     rw [he]; rfl
   ·obtain rfl : j = a.kids.length := by omega
    rw [List.drop_length, Dj] at he
    simp +contextual -dsimp only [↓SD, SU, simprocAttr, Aa, Nat.lt_irrefl]
    rw [he]; rfl
  ·have hE : Cv (Fg l) l.length (f + 1) i = none := by rw [Cv, if_neg hi]
   have hi' : l.length ≤ i := by omega
   simp +contextual -dsimp only [↓SD, SU, simprocAttr, GV, Aa, hi', hE]
   rfl

end Go.Proofs.YtppjinmlfcokaaaGreat
