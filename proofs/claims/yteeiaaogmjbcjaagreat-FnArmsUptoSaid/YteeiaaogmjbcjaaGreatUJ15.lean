/-
 RIGHT PATTERNS AND VALUES, told plainly. Conditions: none.
-/
import Derived.Test.YteeiaaogmjbcjaaGreatUWords
import Derived.Test.YteeiaaogmjbcjaaGreatUJ14
import Derived.Test.YteeiaaogmjbcjaaGreatUJ09
import Derived.Test.YteeiaaogmjbcjaaGreatProg
import Derived.Test.YteeiaaogmjbcjaaGreatUAvDraw
import Derived.Test.YteeiaaogmjbcjaaGreatUJ06
set_option linter.unusedVariables false
namespace Go.Proofs.YteeiaaogmjbcjaaGreat
open Go.RowKit Go.Proofs.YteeiaaogmjbcjaaGreat.Av Go.Proofs.YteeiaaogmjbcjaaGreat.Ml
open Go.Proofs.YteeiaaogmjbcjaaGreat.Av.AVal (av)

def En {α : Type} [Inhabited α] (kd : α → Int) (l : List α) (kids : List Int) (d : Int) : Bool :=
 match kids with
 | [k] => decide (0 ≤ k) && decide (k < l.length) && decide (kd (l.getD k.toNat default) = d)
 | _ => false
def CM (l : List A0) (n : A0) : Bool :=
 if n.kind = 1 ∨ n.kind = 6 then decide (n.kids.length = 0) && decide (n.n = 0) && decide (n.s = bs [])
 else if n.kind = 2 then decide (n.kids.length = 0) && decide (n.n = 0) && Ih n.s
 else if n.kind = 3 then decide (n.kids.length = 0) && decide (n.s = bs []) && (decide (-4611686018427387903 ≤ n.n) && decide (n.n ≤ 4611686018427387903))
 else if n.kind = 4 then decide (n.n = 0) && El n.s n.kids.length (En A0.kind l n.kids 5)
 else if n.kind = 5 then decide (n.kids.length = 2) && decide (n.n = 0) && decide (n.s = bs [])
 else false
def varsOf (l : List A0) : List ByteArray := l.filterMap fun n => if n.kind = 2 then some n.s else none
def Fi (l : List A0) (i : Nat) : Bool := CM l (l.getD i default) && !(decide ((l.getD i default).kind = 2) && (varsOf (l.take i)).any fun x => decide ((l.getD i default).s = x))
def BK (l : List A0) (i : Nat) : List Int := (l.getD i default).kids
def Dy (l : List A0) : Bool := (decide (1 ≤ (l.length : Int)) && decide ((l.length : Int) ≤ 600)) && Gb (BK l) l.length && allI (Fi l) l.length
theorem Qm {α : Type} [Inhabited α] {kd : α → Int} {l : List α} {kids : List Int} {d : Int} (h : ¬ (0 ≤ kids.getD 0 0 ∧ kids.getD 0 0 < l.length)) : En kd l kids d = false := by
 unfold En; split
 ·rename_i k
  simp only [List.getD_cons_zero] at h
  by_cases h0 : 0 ≤ k
  ·have : ¬ k < l.length := fun h1 => h ⟨h0, h1⟩
   simp [this]
  ·simp [h0]
 ·rfl
theorem Q6 {l : List A0} {k : Nat} (h : k < l.length) : varsOf (l.take (k + 1)) = varsOf (l.take k) ++ (if l[k].kind = 2 then [l[k].s] else []) := by
 rw [List.take_succ_eq_append_getElem h, varsOf, List.filterMap_append]
 congr 1
 split <;> simp_all
theorem Eg {l : List A0} (hx : AE.bulk l ≤ 1048576) (k : Nat) (hk : k < l.length) : l[k].kids.length ≤ 1048576 ∧ l[k].s.size ≤ 1048576 := by
 have h1 := IQ (List.getElem_mem hk)
 have h2 : AE.bulk l[k] = AE.bulk l[k].kind + AE.bulk l[k].n + AE.bulk l[k].s + AE.bulk l[k].kids + 1 := rfl
 have h3 := BJ l[k].kids
 have h4 : AE.bulk l[k].s = l[k].s.size + 1 := rfl
 omega
theorem Mg (l : List A0) : (varsOf l).length ≤ l.length := List.length_filterMap_le _ _
end Go.Proofs.YteeiaaogmjbcjaaGreat
set_option linter.unusedVariables false
set_option maxRecDepth 100000
namespace Go.Proofs.YteeiaaogmjbcjaaGreat
open Go.Proofs.YteeiaaogmjbcjaaGreat.Av

theorem Kw : Tryz.prog.follows .mixedOrders = true := by kernel_rfl

def HN : Ir Tryz.prog 57 [(9,7777)] [] 2 := ⟨_, _, Tryz.func57, Kw, by kernel_rfl, Az [] Tryz.progTables (by conv => lhs; cbv) (by kernel_rfl)⟩
def Gk : Ir Tryz.prog 87 [(29,7777)] [9999] 5 := ⟨_, _, Tryz.func87, Kw, by kernel_rfl, Az [] Tryz.progTables (by conv => lhs; cbv) (by kernel_rfl)⟩
end Go.Proofs.YteeiaaogmjbcjaaGreat
set_option linter.unusedVariables false
set_option linter.unusedSimpArgs false
set_option maxRecDepth 100000
namespace Go.Proofs.YteeiaaogmjbcjaaGreat
open Go.RowKit Go.Proofs.YteeiaaogmjbcjaaGreat.Av Go.Proofs.YteeiaaogmjbcjaaGreat.Ml
open Go.Proofs.YteeiaaogmjbcjaaGreat.Av.AVal (av)

def Ka (n : Nat) (g : FuncId) (caps : List AV) (v5 v6 : Nat) (nx : Nat) : Hp :=
 [(5, ⟨v5, false, 3, 1, [.int .i64 nx]⟩), (6, ⟨v6, false, 140, 1, [.fn 87 [.ptr 5 v5 0 0, .obj [.int .i64 n], .obj [.fn g caps], .ptr 6 v6 0 0]]⟩)]
theorem DC (n : Nat) (g : FuncId) (caps : List AV) (v5 v6 : Nat) (nx : Nat) : Ka n g caps v5 v6 nx = [(5, ⟨v5, false, 3, 1, [.int .i64 nx]⟩), (6, ⟨v6, false, 140, 1, [.fn 87 [.ptr 5 v5 0 0, .obj [.int .i64 n], .obj [.fn g caps], .ptr 6 v6 0 0]]⟩)] := eqq rfl
def Hn (n : Nat) (g : FuncId) (caps : List AV) (v5 v6 : Nat) (o : Option Nat) (r : AV) (hp' : Hp) : Prop :=
 ∃ nx', r = .bool o.isSome ∧ hp' = Ka n g caps v5 v6 nx' ∧ (∀ m, o = some m → nx' = m)
theorem Hn.of {n : Nat} {g : FuncId} {caps : List AV} {v5 v6 nx : Nat} {o : Option Nat} {b : Bool} (h : o.isSome = b) (hm : ∀ m, o = some m → nx = m) : Hn n g caps v5 v6 o (.bool b) (Ka n g caps v5 v6 nx) := ⟨nx, by rw [h], rfl, hm⟩
theorem AaB (K : Nat → List Int) (n : Nat) (hn : n ≤ 1048576) (g : FuncId) (caps : List AV) (hc : ∀ hp, caps.map (AV.Bs hp) = caps) (hK : ∀ i, i < n → (K i).length ≤ 1048576 ∧ AJ Tryz.prog g (.int .i64 i :: caps) (.sl ((K i).map av))) (v5 v6 : Nat) :
  ∀ (f : Nat) (i : Int) (nx : Nat), nx ≤ n → n - nx < f → AH Tryz.prog 87 [.int .i64 i, .ptr 5 v5 0 0, .obj [.int .i64 n], .obj [.fn g caps], .ptr 6 v6 0 0] (Ka n g caps v5 v6 nx) (Hn n g caps v5 v6 (GD K n f i nx)) := by
 intro f
 induction f with
 | zero => intro i nx _ h; omega
 | succ f ih =>
  intro i nx hnx hf
  refine Gk.H rfl ?_
  simp +contextual -dsimp only [↓SD, SU, simprocAttr, Gk, DC, hc]
  refine ⟨fun hi => ⟨fun hle => ?_, fun hle => ⟨by omega, ?_⟩⟩, fun hi => ?_⟩
  ·refine Ai.post (Ka n g caps v5 v6 nx) ?_
   simp +contextual -dsimp only [↓SD, SU, simprocAttr, DC]
   refine Hn.of ?_ ?_ <;> simp [GD, D4, hi, Nat.not_lt.2 hle]
  ·obtain ⟨hk1, hk2⟩ := hK nx (by omega)
   refine Ag _ hk2 ?_
   simp +contextual -dsimp only [↓SD, SU, simprocAttr, Aa]
   refine AG (X := Nat × Nat) (fun x => ⟨[(4, .ptr 6 v6 0 0), (21, .sl ((K nx).map av)), (22, .int .i64 (K nx).length), (23, .int .i64 x.1)], Ka n g caps v5 v6 x.2⟩) (fun x => x.1 ≤ (K nx).length ∧ nx < x.2 ∧ x.2 ≤ n ∧ D0 (D4 K n f) (K nx) (nx + 1) = D0 (D4 K n f) ((K nx).drop x.1) x.2) (fun x => (K nx).length - x.1) (0, nx + 1) ⟨Nat.zero_le _, by simp, by simp only; omega, rfl⟩ (by simp +contextual -dsimp only [↓SD, SU, simprocAttr]) (by simp +contextual -dsimp only [↓SD, SU, simprocAttr, DC, Int.natCast_add]) ?_
   rintro ⟨j, m⟩ ⟨hj, hm1, hm2, he⟩
   simp only at hj hm1 hm2 he
   have hw : GD K n (f + 1) i nx = D0 (D4 K n f) ((K nx).drop j) m := by
    rw [GD, if_pos hi, D4, if_pos (by omega), he]
   by_cases hlt : j < (K nx).length
   ·have e := getD_map av (K nx) j .top hlt
    rw [List.drop_eq_getElem_cons hlt, D0] at he
    have hw' : GD K n (f + 1) i nx = match GD K n f (K nx)[j] m with | some m' => D0 (D4 K n f) ((K nx).drop (j + 1)) m' | none => none := by
     rw [hw, List.drop_eq_getElem_cons hlt, D0, GD]
     split <;> rfl
    have C := ih (K nx)[j] m hm2 (by omega)
    simp +contextual -dsimp only [↓SD, SU, simprocAttr, Aa, e, Ae, hlt, DC, hc]
    refine Ac [5, 6] C (by simp +contextual -dsimp only [↓SD, SU, simprocAttr, DC]) ?_
    rintro r hp' ⟨nx', rfl, rfl, hnx'⟩
    cases ho : GD K n f (K nx)[j] m with
    | none =>
     rw [ho] at hw'
     simp +contextual -dsimp only [↓SD, SU, simprocAttr, ho, Option.isSome_none]
     refine Ai.post (Ka n g caps v5 v6 nx') ?_
     simp +contextual -dsimp only [↓SD, SU, simprocAttr, DC]
     rw [hw']
     exact Hn.of rfl (fun m h => by cases h)
    | some m' =>
     rw [ho] at hw'
     obtain rfl := hnx' m' ho
     have hm' : m < nx' ∧ nx' ≤ n := by
      unfold GD at ho
      split at ho
      ·exact Nw K n f m nx' ho
      ·cases ho
     simp +contextual -dsimp only [↓SD, SU, simprocAttr, ho, Option.isSome_some]
     refine ⟨by omega, Ai.le ⟨(j + 1, nx'), ⟨⟨hlt, by simp only; omega, hm'.2, ?_⟩, (by first | omega | (simp only; omega))⟩, rfl⟩ (by simp +contextual -dsimp only [↓SD, SU, simprocAttr, Int.natCast_add]) (by simp +contextual -dsimp only [↓SD, SU, simprocAttr, DC])⟩
     rw [he]
     simp only at hw' ⊢
     rw [GD, if_pos hi, D4, if_pos (by omega), he] at hw'
     exact hw'
   ·obtain rfl : j = (K nx).length := by omega
    rw [List.drop_length, D0] at hw
    simp +contextual -dsimp only [↓SD, SU, simprocAttr, Aa, Nat.lt_irrefl]
    refine Ai.post (Ka n g caps v5 v6 m) ?_
    simp +contextual -dsimp only [↓SD, SU, simprocAttr, DC]
    rw [hw]
    exact Hn.of rfl (fun m h => by cases h; rfl)
  ·refine Ai.post (Ka n g caps v5 v6 nx) ?_
   simp +contextual -dsimp only [↓SD, SU, simprocAttr, DC]
   refine Hn.of ?_ ?_ <;> simp [GD, hi]

theorem UW (K : Nat → List Int) (n : Nat) (hn : n ≤ 1048576) (g : FuncId) (caps : List AV) (hp : ∀ x ∈ caps, Ap x) (hc : ∀ hp, caps.map (AV.Bs hp) = caps) (hK : ∀ i, i < n → (K i).length ≤ 1048576 ∧ AJ Tryz.prog g (.int .i64 i :: caps) (.sl ((K i).map av))) :
  AJ Tryz.prog 57 [.int .i64 n, .fn g caps] (.bool (Gb K n)) := by
 refine HN.F rfl (by simp; exact ⟨E0 _, Ap.fn hp⟩) (Ap.bool _) ?_
 simp +contextual -dsimp only [↓SD, SU, simprocAttr, HN, hc]
 intro v5 v6
 have C := AaB K n hn g caps hc hK v5 v6 (n + 1) 0 0 (Nat.zero_le _) (by omega)
 refine Ac [5, 6] C (by simp +contextual -dsimp only [↓SD, SU, simprocAttr, DC]) ?_
 rintro r hp' ⟨nx', rfl, rfl, hnx'⟩
 have e0 : GD K n (n + 1) 0 0 = D4 K n (n + 1) 0 := by rw [GD, if_pos (by rfl)]
 rw [e0] at hnx' ⊢
 cases ho : D4 K n (n + 1) 0 with
 | none =>
  simp +contextual -dsimp only [↓SD, SU, simprocAttr, ho, Option.isSome_none]
  simp [Gb, ho]
 | some m =>
  obtain rfl := hnx' m ho
  simp +contextual -dsimp only [↓SD, SU, simprocAttr, ho, Option.isSome_some, DC]
  simp [Gb, ho]
end Go.Proofs.YteeiaaogmjbcjaaGreat
