/-
 RIGHT PATTERNS AND VALUES, told plainly. Conditions: none.
-/
import Derived.Test.YteeiaaogmjbcjaaGreatUWords
import Derived.Test.YteeiaaogmjbcjaaGreatUJ14
import Derived.Test.YteeiaaogmjbcjaaGreatUJ09
import Derived.Test.YteeiaaogmjbcjaaGreatProg
import Derived.Test.YteeiaaogmjbcjaaGreatUAvDraw
import Derived.Test.YteeiaaogmjbcjaaGreatUJ06
set_option linter.unusedVariables false
namespace Go.Proofs.YteeiaaogmjbcjaaGreat
open Go.RowKit Go.Proofs.YteeiaaogmjbcjaaGreat.Av Go.Proofs.YteeiaaogmjbcjaaGreat.Ml
open Go.Proofs.YteeiaaogmjbcjaaGreat.Av.AVal (av)

def Eo {α : Type} [Inhabited α] (kd : α → Int) (l : List α) (kids : List Int) (d : Int) : Bool :=
 match kids with
 | [k] => decide (0 ≤ k) && decide (k < l.length) && decide (kd (l.getD k.toNat default) = d)
 | _ => false
def CM (l : List A0) (n : A0) : Bool :=
 if n.kind = 1 ∨ n.kind = 6 then decide (n.kids.length = 0) && decide (n.n = 0) && decide (n.s = bs [])
 else if n.kind = 2 then decide (n.kids.length = 0) && decide (n.n = 0) && Il n.s
 else if n.kind = 3 then decide (n.kids.length = 0) && decide (n.s = bs []) && (decide (-4611686018427387903 ≤ n.n) && decide (n.n ≤ 4611686018427387903))
 else if n.kind = 4 then decide (n.n = 0) && Em n.s n.kids.length (Eo A0.kind l n.kids 5)
 else if n.kind = 5 then decide (n.kids.length = 2) && decide (n.n = 0) && decide (n.s = bs [])
 else false
def varsOf (l : List A0) : List ByteArray := l.filterMap fun n => if n.kind = 2 then some n.s else none
def Fk (l : List A0) (i : Nat) : Bool := CM l (l.getD i default) && !(decide ((l.getD i default).kind = 2) && (varsOf (l.take i)).any fun x => decide ((l.getD i default).s = x))
def BK (l : List A0) (i : Nat) : List Int := (l.getD i default).kids
def Dy (l : List A0) : Bool := (decide (1 ≤ (l.length : Int)) && decide ((l.length : Int) ≤ 600)) && Ge (BK l) l.length && allI (Fk l) l.length
theorem Qo {α : Type} [Inhabited α] {kd : α → Int} {l : List α} {kids : List Int} {d : Int} (h : ¬ (0 ≤ kids.getD 0 0 ∧ kids.getD 0 0 < l.length)) : Eo kd l kids d = false := by
 unfold Eo; split
 ·rename_i k
  simp only [List.getD_cons_zero] at h
  by_cases h0 : 0 ≤ k
  ·have : ¬ k < l.length := fun h1 => h ⟨h0, h1⟩
   simp [this]
  ·simp [h0]
 ·rfl
theorem Q9 {l : List A0} {k : Nat} (h : k < l.length) : varsOf (l.take (k + 1)) = varsOf (l.take k) ++ (if l[k].kind = 2 then [l[k].s] else []) := by
 rw [List.take_succ_eq_append_getElem h, varsOf, List.filterMap_append]
 congr 1
 split <;> simp_all
theorem Eh {l : List A0} (hx : AE.bulk l ≤ 1048576) (k : Nat) (hk : k < l.length) : l[k].kids.length ≤ 1048576 ∧ l[k].s.size ≤ 1048576 := by
 have h1 := IX (List.getElem_mem hk)
 have h2 : AE.bulk l[k] = AE.bulk l[k].kind + AE.bulk l[k].n + AE.bulk l[k].s + AE.bulk l[k].kids + 1 := rfl
 have h3 := BJ l[k].kids
 have h4 : AE.bulk l[k].s = l[k].s.size + 1 := rfl
 omega
theorem Mm (l : List A0) : (varsOf l).length ≤ l.length := List.length_filterMap_le _ _
end Go.Proofs.YteeiaaogmjbcjaaGreat
set_option linter.unusedVariables false
set_option maxRecDepth 100000
namespace Go.Proofs.YteeiaaogmjbcjaaGreat
open Go.Proofs.YteeiaaogmjbcjaaGreat.Av

theorem KB : Tryz.prog.follows .mixedOrders = true := by kernel_rfl

def HR : Ir Tryz.prog 57 [(9,7777)] [] 2 := ⟨_, _, Tryz.func57, KB, by kernel_rfl, Az [] Tryz.progTables (by conv => lhs; cbv) (by kernel_rfl)⟩
def Gn : Ir Tryz.prog 87 [(29,7777)] [9999] 5 := ⟨_, _, Tryz.func87, KB, by kernel_rfl, Az [] Tryz.progTables (by conv => lhs; cbv) (by kernel_rfl)⟩
end Go.Proofs.YteeiaaogmjbcjaaGreat
set_option linter.unusedVariables false
set_option linter.unusedSimpArgs false
set_option maxRecDepth 100000
namespace Go.Proofs.YteeiaaogmjbcjaaGreat
open Go.RowKit Go.Proofs.YteeiaaogmjbcjaaGreat.Av Go.Proofs.YteeiaaogmjbcjaaGreat.Ml
open Go.Proofs.YteeiaaogmjbcjaaGreat.Av.AVal (av)

def Ke (n : Nat) (g : FuncId) (caps : List AV) (v5 v6 : Nat) (nx : Nat) : Hp :=
 [(5, ⟨v5, false, 3, 1, [.int .i64 nx]⟩), (6, ⟨v6, false, 140, 1, [.fn 87 [.ptr 5 v5 0 0, .obj [.int .i64 n], .obj [.fn g caps], .ptr 6 v6 0 0]]⟩)]
theorem DC (n : Nat) (g : FuncId) (caps : List AV) (v5 v6 : Nat) (nx : Nat) : Ke n g caps v5 v6 nx = [(5, ⟨v5, false, 3, 1, [.int .i64 nx]⟩), (6, ⟨v6, false, 140, 1, [.fn 87 [.ptr 5 v5 0 0, .obj [.int .i64 n], .obj [.fn g caps], .ptr 6 v6 0 0]]⟩)] := eqq rfl
def Hr (n : Nat) (g : FuncId) (caps : List AV) (v5 v6 : Nat) (o : Option Nat) (r : AV) (hp' : Hp) : Prop :=
 ∃ nx', r = .bool o.isSome ∧ hp' = Ke n g caps v5 v6 nx' ∧ (∀ m, o = some m → nx' = m)
theorem Hr.of {n : Nat} {g : FuncId} {caps : List AV} {v5 v6 nx : Nat} {o : Option Nat} {b : Bool} (h : o.isSome = b) (hm : ∀ m, o = some m → nx = m) : Hr n g caps v5 v6 o (.bool b) (Ke n g caps v5 v6 nx) := ⟨nx, by rw [h], rfl, hm⟩
theorem AaE (K : Nat → List Int) (n : Nat) (hn : n ≤ 1048576) (g : FuncId) (caps : List AV) (hc : ∀ hp, caps.map (AV.Bs hp) = caps) (hK : ∀ i, i < n → (K i).length ≤ 1048576 ∧ AJ Tryz.prog g (.int .i64 i :: caps) (.sl ((K i).map av))) (v5 v6 : Nat) :
  ∀ (f : Nat) (i : Int) (nx : Nat), nx ≤ n → n - nx < f → AH Tryz.prog 87 [.int .i64 i, .ptr 5 v5 0 0, .obj [.int .i64 n], .obj [.fn g caps], .ptr 6 v6 0 0] (Ke n g caps v5 v6 nx) (Hr n g caps v5 v6 (GH K n f i nx)) := by
 intro f
 induction f with
 | zero => intro i nx _ h; omega
 | succ f ih =>
  intro i nx hnx hf
  refine Gn.H rfl ?_
  simp +contextual -dsimp only [↓SD, SU, simprocAttr, Gn, DC, hc]
  refine ⟨fun hi => ⟨fun hle => ?_, fun hle => ⟨by omega, ?_⟩⟩, fun hi => ?_⟩
  ·refine Ai.post (Ke n g caps v5 v6 nx) ?_
   simp +contextual -dsimp only [↓SD, SU, simprocAttr, DC]
   refine Hr.of ?_ ?_ <;> simp [GH, D5, hi, Nat.not_lt.2 hle]
  ·obtain ⟨hk1, hk2⟩ := hK nx (by omega)
   refine Ag _ hk2 ?_
   simp +contextual -dsimp only [↓SD, SU, simprocAttr, Aa]
   refine AG (X := Nat × Nat) (fun x => ⟨[(4, .ptr 6 v6 0 0), (21, .sl ((K nx).map av)), (22, .int .i64 (K nx).length), (23, .int .i64 x.1)], Ke n g caps v5 v6 x.2⟩) (fun x => x.1 ≤ (K nx).length ∧ nx < x.2 ∧ x.2 ≤ n ∧ D1 (D5 K n f) (K nx) (nx + 1) = D1 (D5 K n f) ((K nx).drop x.1) x.2) (fun x => (K nx).length - x.1) (0, nx + 1) ⟨Nat.zero_le _, by simp, by simp only; omega, rfl⟩ (by simp +contextual -dsimp only [↓SD, SU, simprocAttr]) (by simp +contextual -dsimp only [↓SD, SU, simprocAttr, DC, Int.natCast_add]) ?_
   rintro ⟨j, m⟩ ⟨hj, hm1, hm2, he⟩
   simp only at hj hm1 hm2 he
   have hw : GH K n (f + 1) i nx = D1 (D5 K n f) ((K nx).drop j) m := by
    rw [GH, if_pos hi, D5, if_pos (by omega), he]
   by_cases hlt : j < (K nx).length
   ·have e := getD_map av (K nx) j .top hlt
    rw [List.drop_eq_getElem_cons hlt, D1] at he
    have hw' : GH K n (f + 1) i nx = match GH K n f (K nx)[j] m with | some m' => D1 (D5 K n f) ((K nx).drop (j + 1)) m' | none => none := by
     rw [hw, List.drop_eq_getElem_cons hlt, D1, GH]
     split <;> rfl
    have C := ih (K nx)[j] m hm2 (by omega)
    simp +contextual -dsimp only [↓SD, SU, simprocAttr, Aa, e, Ae, hlt, DC, hc]
    refine Ac [5, 6] C (by simp +contextual -dsimp only [↓SD, SU, simprocAttr, DC]) ?_
    rintro r hp' ⟨nx', rfl, rfl, hnx'⟩
    cases ho : GH K n f (K nx)[j] m with
    | none =>
     rw [ho] at hw'
     simp +contextual -dsimp only [↓SD, SU, simprocAttr, ho, Option.isSome_none]
     refine Ai.post (Ke n g caps v5 v6 nx') ?_
     simp +contextual -dsimp only [↓SD, SU, simprocAttr, DC]
     rw [hw']
     exact Hr.of rfl (fun m h => by cases h)
    | some m' =>
     rw [ho] at hw'
     obtain rfl := hnx' m' ho
     have hm' : m < nx' ∧ nx' ≤ n := by
      unfold GH at ho
      split at ho
      ·exact Nz K n f m nx' ho
      ·cases ho
     simp +contextual -dsimp only [↓SD, SU, simprocAttr, ho, Option.isSome_some]
     refine ⟨by omega, Ai.le ⟨(j + 1, nx'), ⟨⟨hlt, by simp only; omega, hm'.2, ?_⟩, (by first | omega | (simp only; omega))⟩, rfl⟩ (by simp +contextual -dsimp only [↓SD, SU, simprocAttr, Int.natCast_add]) (by simp +contextual -dsimp only [↓SD, SU, simprocAttr, DC])⟩
     rw [he]
     simp only at hw' ⊢
     rw [GH, if_pos hi, D5, if_pos (by omega), he] at hw'
     exact hw'
   ·obtain rfl : j = (K nx).length := by omega
    rw [List.drop_length, D1] at hw
    simp +contextual -dsimp only [↓SD, SU, simprocAttr, Aa, Nat.lt_irrefl]
    refine Ai.post (Ke n g caps v5 v6 m) ?_
    simp +contextual -dsimp only [↓SD, SU, simprocAttr, DC]
    rw [hw]
    exact Hr.of rfl (fun m h => by cases h; rfl)
  ·refine Ai.post (Ke n g caps v5 v6 nx) ?_
   simp +contextual -dsimp only [↓SD, SU, simprocAttr, DC]
   refine Hr.of ?_ ?_ <;> simp [GH, hi]

theorem UY (K : Nat → List Int) (n : Nat) (hn : n ≤ 1048576) (g : FuncId) (caps : List AV) (hp : ∀ x ∈ caps, Ap x) (hc : ∀ hp, caps.map (AV.Bs hp) = caps) (hK : ∀ i, i < n → (K i).length ≤ 1048576 ∧ AJ Tryz.prog g (.int .i64 i :: caps) (.sl ((K i).map av))) :
  AJ Tryz.prog 57 [.int .i64 n, .fn g caps] (.bool (Ge K n)) := by
 refine HR.F rfl (by simp; exact ⟨E2 _, Ap.fn hp⟩) (Ap.bool _) ?_
 simp +contextual -dsimp only [↓SD, SU, simprocAttr, HR, hc]
 intro v5 v6
 have C := AaE K n hn g caps hc hK v5 v6 (n + 1) 0 0 (Nat.zero_le _) (by omega)
 refine Ac [5, 6] C (by simp +contextual -dsimp only [↓SD, SU, simprocAttr, DC]) ?_
 rintro r hp' ⟨nx', rfl, rfl, hnx'⟩
 have e0 : GH K n (n + 1) 0 0 = D5 K n (n + 1) 0 := by rw [GH, if_pos (by rfl)]
 rw [e0] at hnx' ⊢
 cases ho : D5 K n (n + 1) 0 with
 | none =>
  simp +contextual -dsimp only [↓SD, SU, simprocAttr, ho, Option.isSome_none]
  simp [Ge, ho]
 | some m =>
  obtain rfl := hnx' m ho
  simp +contextual -dsimp only [↓SD, SU, simprocAttr, ho, Option.isSome_some, DC]
  simp [Ge, ho]
end Go.Proofs.YteeiaaogmjbcjaaGreat
