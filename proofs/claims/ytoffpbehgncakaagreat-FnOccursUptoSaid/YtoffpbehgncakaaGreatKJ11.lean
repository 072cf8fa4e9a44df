/-
  THE ABSTRACT TEXTS OF FUNCTIONS (Data), printed by irgen.py, and that they are the functions' own. Conditions: none.
-/
import Derived.Test.YtoffpbehgncakaaGreatProg
import Derived.Test.YtoffpbehgncakaaGreatKAvDraw
import Derived.Test.YtoffpbehgncakaaGreatKJ05
import Derived.Test.YtoffpbehgncakaaGreatRows
import Derived.Test.YtoffpbehgncakaaGreatKJ06
import Derived.Test.YtoffpbehgncakaaGreatKAvSimp
set_option linter.unusedVariables false
set_option maxRecDepth 100000
set_option linter.unusedVariables false
set_option maxRecDepth 100000
namespace Go.Proofs.YtoffpbehgncakaaGreat
open Go.Proofs.YtoffpbehgncakaaGreat.Av

theorem Ek : Tryz.prog.follows .mixedOrders = true := by kernel_rfl

def Jz : Ir Tryz.prog 37 [] [] 1 := ⟨_, _, Tryz.func37, Ek, by kernel_rfl, AA [] Tryz.progTables (by conv => lhs; cbv) (by kernel_rfl)⟩
def HY : Ir Tryz.prog 73 [] [] 2 := ⟨_, _, Tryz.func73, Ek, by kernel_rfl, AA [] Tryz.progTables (by conv => lhs; cbv) (by kernel_rfl)⟩
def Ez : Ir Tryz.prog 74 [] [] 2 := ⟨_, _, Tryz.func74, Ek, by kernel_rfl, AA [] Tryz.progTables (by conv => lhs; cbv) (by kernel_rfl)⟩
def Jv : Ir Tryz.prog 104 [] [] 1 := ⟨_, _, Tryz.func104, Ek, by kernel_rfl, AA [] Tryz.progTables (by conv => lhs; cbv) (by kernel_rfl)⟩
def Ct : Ir Tryz.prog 158 [] [] 2 := ⟨_, _, Tryz.func158, Ek, by kernel_rfl, AA [] Tryz.progTables (by conv => lhs; cbv) (by kernel_rfl)⟩
def Fc : Ir Tryz.prog 159 [] [] 2 := ⟨_, _, Tryz.func159, Ek, by kernel_rfl, AA [] Tryz.progTables (by conv => lhs; cbv) (by kernel_rfl)⟩
end Go.Proofs.YtoffpbehgncakaaGreat
set_option linter.unusedVariables false
namespace Go.Proofs.YtoffpbehgncakaaGreat
open Go.RowKit Go.Proofs.YtoffpbehgncakaaGreat.Av
open Go.Proofs.YtoffpbehgncakaaGreat.Av.AVal (av)
open AVal (av)

theorem DO {α : Type} {l : List α} {k : Nat} (h : k < l.length) (d : α) : l.getD k d = l[k] := by simp [List.getD_eq_getElem?_getD, h]
theorem Ji {α : Type} [AVal α] (d : List α) (z : α) {j : Nat} (h : j < d.length) : (d.map av).getD j .top = av (d.getD j z) := by
 rw [getD_map av d j .top h, DO h]
theorem DT {α β : Type} (f : α → β) (l : List α) : (l.map f).take l.length = l.map f := by rw [List.take_of_length_le]; simp
def allI (p : Nat → Bool) (n : Nat) : Bool := (List.range n).all p
theorem Vl {p : Nat → Bool} {n i : Nat} (hi : i < n) (h : p i = false) : allI p n = false := by
 unfold allI; rw [List.all_eq_false]; exact ⟨i, List.mem_range.2 hi, by simp [h]⟩
theorem Z2 {p : Nat → Bool} {n : Nat} : allI p n = true ↔ ∀ i, i < n → p i = true := by
 unfold allI; rw [List.all_eq_true]; exact ⟨fun h i hi => h i (List.mem_range.2 hi), fun h i hi => h i (List.mem_range.1 hi)⟩
end Go.Proofs.YtoffpbehgncakaaGreat
set_option linter.unusedVariables false
set_option linter.unusedVariables false
namespace Go.Proofs.YtoffpbehgncakaaGreat
open Go.RowKit Go.Proofs.YtoffpbehgncakaaGreat.Ml

structure BD where
 kind : Int
 n : Int
 s : ByteArray
 kids : List Int
 deriving DecidableEq, Inhabited

def BD.rep (S : Nat → Prop) (w : World) (cs : List Value) (x : BD) : Prop := ∃ v3, cs = [Value.int .i64 x.kind, Value.int .i64 x.n, Value.string x.s, v3] ∧ (-9223372036854775808 ≤ x.kind ∧ x.kind ≤ 9223372036854775807) ∧ (-9223372036854775808 ≤ x.n ∧ x.n ≤ 9223372036854775807) ∧ x.s.size ≤ maxLen ∧ DG S w v3 x.kids
instance : Rep BD where
 n := 4
 rep := BD.rep
 len := by rintro _ _ _ _ ⟨v3, rfl, _⟩; rfl
 carry := by rintro _ _ _ _ _ _ ⟨v3, rfl, h0, h1, h2, h3⟩ hS hw; exact ⟨v3, rfl, h0, h1, h2, h3.carry hS hw⟩
instance : AE BD := ⟨fun x => AE.bulk x.kind + AE.bulk x.n + AE.bulk x.s + AE.bulk x.kids + 1, fun _ => by omega⟩

structure Pat where
 nodes : List BD
 deriving DecidableEq, Inhabited

def Pat.rep (S : Nat → Prop) (w : World) (cs : List Value) (x : Pat) : Prop := ∃ v0, cs = [v0] ∧ DG S w v0 x.nodes
instance : Rep Pat where
 n := 1
 rep := Pat.rep
 len := by rintro _ _ _ _ ⟨v0, rfl, _⟩; rfl
 carry := by rintro _ _ _ _ _ _ ⟨v0, rfl, h0⟩ hS hw; exact ⟨v0, rfl, h0.carry hS hw⟩
instance : AE Pat := ⟨fun x => AE.bulk x.nodes + 1, fun _ => by omega⟩

end Go.Proofs.YtoffpbehgncakaaGreat
set_option linter.unusedVariables false
set_option maxRecDepth 100000
set_option linter.unusedVariables false
set_option linter.unusedSimpArgs false
set_option maxRecDepth 100000
set_option linter.unusedVariables false
set_option maxRecDepth 100000
set_option linter.unusedVariables false
set_option linter.unusedSimpArgs false
set_option maxRecDepth 100000
namespace Go.Proofs.YtoffpbehgncakaaGreat
open Go.RowKit Go.Proofs.YtoffpbehgncakaaGreat.Av Go.Proofs.YtoffpbehgncakaaGreat.Ml
open Go.Proofs.YtoffpbehgncakaaGreat.Av.AVal (av)

instance : AVal BD := ⟨fun x => .agg [.int .i64 x.kind, .int .i64 x.n, .str x.s, .sl (x.kids.map av)], 4, fun _ => rfl, fun _ => rfl, fun x y hy => by
 simp only [AV.cells, List.mem_cons, List.not_mem_nil, or_false] at hy
 rcases hy with rfl | rfl | rfl | rfl <;> first | exact Ap.int _ _ | exact Ap.str _ | exact Ap.bool _ | exact AQ x.kids, fun _ _ => rfl, fun x y hy => by
 simp only [AV.cells, List.mem_cons, List.not_mem_nil, or_false] at hy
 rcases hy with rfl | rfl | rfl | rfl <;> rfl⟩
theorem Bw (x : BD) : av x = .agg [.int .i64 x.kind, .int .i64 x.n, .str x.s, .sl (x.kids.map av)] := eqq rfl
instance : Em BD := ⟨fun {S w cs y} h => by
 obtain ⟨v3, rfl, h0, h1, h2, r3⟩ := h
 exact VRs.cons (.int _ _ h0.1 h0.2) (VRs.cons (.int _ _ h1.1 h1.2) (VRs.cons (.str _ h2) (VRs.cons (C7 r3) (VRs.nil))))⟩

instance : AVal Pat := ⟨fun x => .agg [.sl (x.nodes.map av)], 1, fun _ => rfl, fun _ => rfl, fun x y hy => by
 simp only [AV.cells, List.mem_cons, List.not_mem_nil, or_false] at hy
 subst hy; first | exact Ap.int _ _ | exact Ap.str _ | exact Ap.bool _ | exact AQ x.nodes, fun _ _ => rfl, fun x y hy => by
 simp only [AV.cells, List.mem_cons, List.not_mem_nil, or_false] at hy
 subst hy; rfl⟩
theorem Ed (x : Pat) : av x = .agg [.sl (x.nodes.map av)] := eqq rfl
instance : Em Pat := ⟨fun {S w cs y} h => by
 obtain ⟨v0, rfl, r0⟩ := h
 exact VRs.cons (C7 r0) (VRs.nil)⟩

end Go.Proofs.YtoffpbehgncakaaGreat
namespace Go.Proofs.YtoffpbehgncakaaGreat

def Cy (e : Nat → Option Nat) : List Int → Nat → Option Nat
 | [], nx => some nx
 | k :: ks, nx => if k = nx then (match e nx with | some m => Cy e ks m | none => none) else none
def Cl (K : Nat → List Int) (n : Nat) : Nat → Nat → Option Nat
 | 0, _ => none
 | f + 1, i => if i < n then Cy (Cl K n f) (K i) (i + 1) else none
def GF (K : Nat → List Int) (n f : Nat) (i : Int) (nx : Nat) : Option Nat := if i = nx then Cl K n f nx else none

theorem QI {e : Nat → Option Nat} {n : Nat} (he : ∀ a m, e a = some m → a < m ∧ m ≤ n) : ∀ {ks : List Int} {a m : Nat}, Cy e ks a = some m → a ≤ n → a ≤ m ∧ m ≤ n
 | [], a, m, h, ha => by cases h; exact ⟨Nat.le_refl _, ha⟩
 | k :: ks, a, m, h, ha => by
  unfold Cy at h
  split at h
  ·split at h
   ·rename_i m' hm'
    have h1 := he _ _ hm'
    have h2 := QI he h h1.2
    omega
   ·cases h
  ·cases h
theorem I2 (K : Nat → List Int) (n : Nat) : ∀ (f a m : Nat), Cl K n f a = some m → a < m ∧ m ≤ n
 | 0, a, m, h => by cases h
 | f + 1, a, m, h => by
  unfold Cl at h
  split at h
  ·have := QI (I2 K n f) h (by omega)
   omega
  ·cases h
theorem Po {e e' : Nat → Option Nat} (he : ∀ a m, e a = some m → e' a = some m) : ∀ {ks : List Int} {a m : Nat}, Cy e ks a = some m → Cy e' ks a = some m
 | [], a, m, h => h
 | k :: ks, a, m, h => by
  unfold Cy at h ⊢
  split at h
  ·rename_i hk
   rw [if_pos hk]
   split at h
   ·rename_i m' hm'
    rw [he _ _ hm']
    exact Po he h
   ·cases h
  ·cases h
theorem Tb (K : Nat → List Int) (n : Nat) : ∀ (f a m : Nat), Cl K n f a = some m → Cl K n (f + 1) a = some m
 | 0, a, m, h => by cases h
 | f + 1, a, m, h => by
  unfold Cl at h ⊢
  split at h
  ·rename_i hl; rw [if_pos hl]; exact Po (Tb K n f) h
  ·cases h
theorem ZJ (K : Nat → List Int) (n : Nat) {f a m : Nat} (h : Cl K n f a = some m) : ∀ g, f ≤ g → Cl K n g a = some m := by
 intro g hg
 induction g with
 | zero =>
  obtain rfl : f = 0 := by omega
  exact h
 | succ g ih =>
  rcases Nat.lt_or_ge g f with h1 | h1
  ·obtain rfl : f = g + 1 := by omega
   exact h
  ·exact Tb K n g a m (ih h1)
theorem WA {K : Nat → List Int} {n : Nat} {e : Nat → Option Nat} (hle : ∀ a m, e a = some m → a < m ∧ m ≤ n) (he : ∀ a m, e a = some m → ∀ i, a ≤ i → i < m → ∀ k ∈ K i, (i : Int) < k ∧ k < n) :
  ∀ {ks : List Int} {a m : Nat}, a ≤ n → Cy e ks a = some m → (∀ k ∈ ks, (a : Int) ≤ k ∧ k < m) ∧ ∀ i, a ≤ i → i < m → ∀ k ∈ K i, (i : Int) < k ∧ k < n
 | [], a, m, _, h => by cases h; exact ⟨fun k hk => (by cases hk), fun i h1 h2 => by omega⟩
 | k :: ks, a, m, ha, h => by
  unfold Cy at h
  split at h
  ·rename_i hk
   split at h
   ·rename_i m' hm'
    have h1 := hle _ _ hm'
    have h2 := WA hle he h1.2 h
    have h3 := QI hle h h1.2
    refine ⟨fun x hx => ?_, fun i h4 h5 => ?_⟩
    ·rcases List.mem_cons.1 hx with rfl | hx
     ·omega
     ·have := h2.1 x hx; omega
    ·rcases Nat.lt_or_ge i m' with h6 | h6
     ·exact he _ _ hm' i h4 h6
     ·exact h2.2 i h6 h5
   ·cases h
  ·cases h
theorem ZK (K : Nat → List Int) (n : Nat) : ∀ (f a m : Nat), Cl K n f a = some m → ∀ i, a ≤ i → i < m → ∀ k ∈ K i, (i : Int) < k ∧ k < n
 | 0, a, m, h => by cases h
 | f + 1, a, m, h => by
  have hm := I2 K n (f + 1) a m h
  unfold Cl at h
  split at h
  ·rename_i hl
   have h1 := WA (I2 K n f) (ZK K n f) (by omega) h
   intro i hi him k hk
   rcases Nat.lt_or_ge a i with h2 | h2
   ·exact h1.2 i (by omega) him k hk
   ·obtain rfl : i = a := by omega
    have := h1.1 k hk
    omega
  ·cases h
def Eg (K : Nat → List Int) (n : Nat) : Bool := decide (Cl K n (n + 1) 0 = some n)
theorem I7 {K : Nat → List Int} {n : Nat} (h : Eg K n = true) {i : Nat} (hi : i < n) {k : Int} (hk : k ∈ K i) : (i : Int) < k ∧ k < n :=
 ZK K n _ 0 n (of_decide_eq_true h) i (Nat.zero_le _) hi k hk
end Go.Proofs.YtoffpbehgncakaaGreat
set_option linter.unusedVariables false
set_option maxRecDepth 100000
namespace Go.Proofs.YtoffpbehgncakaaGreat
open Go.Proofs.YtoffpbehgncakaaGreat.Av

theorem Bg : Tryz.prog.follows .mixedOrders = true := by kernel_rfl

def G4 : Ir Tryz.prog 111 [] [] 3 := ⟨_, _, Tryz.func111, Bg, by kernel_rfl, AA [] Tryz.progTables (by conv => lhs; cbv) (by kernel_rfl)⟩
def JA : Ir Tryz.prog 113 [] [] 1 := ⟨_, _, Tryz.func113, Bg, by kernel_rfl, AA [] Tryz.progTables (by conv => lhs; cbv) (by kernel_rfl)⟩
def IU : Ir Tryz.prog 34 [] [] 1 := ⟨_, _, Tryz.func34, Bg, by kernel_rfl, AA [] Tryz.progTables (by conv => lhs; cbv) (by kernel_rfl)⟩
def G2 : Ir Tryz.prog 71 [] [] 0 := ⟨_, _, Tryz.func71, Bg, by kernel_rfl, AA [] Tryz.progTables (by conv => lhs; cbv) (by kernel_rfl)⟩
def CR : Ir Tryz.prog 27 [] [] 2 := ⟨_, _, Tryz.func27, Bg, by kernel_rfl, AA [] Tryz.progTables (by conv => lhs; cbv) (by kernel_rfl)⟩
def Dg : Ir Tryz.prog 54 [] [] 2 := ⟨_, _, Tryz.func54, Bg, by kernel_rfl, AA [] Tryz.progTables (by conv => lhs; cbv) (by kernel_rfl)⟩
def GV : Ir Tryz.prog 103 [] [] 3 := ⟨_, _, Tryz.func103, Bg, by kernel_rfl, AA [] Tryz.progTables (by conv => lhs; cbv) (by kernel_rfl)⟩
def Jx : Ir Tryz.prog 100 [] [] 1 := ⟨_, _, Tryz.func100, Bg, by kernel_rfl, AA [] Tryz.progTables (by conv => lhs; cbv) (by kernel_rfl)⟩
def II : Ir Tryz.prog 56 [] [] 1 := ⟨_, _, Tryz.func56, Bg, by kernel_rfl, AA [] Tryz.progTables (by conv => lhs; cbv) (by kernel_rfl)⟩
def IK : Ir Tryz.prog 69 [] [] 1 := ⟨_, _, Tryz.func69, Bg, by kernel_rfl, AA [] Tryz.progTables (by conv => lhs; cbv) (by kernel_rfl)⟩
def IP : Ir Tryz.prog 115 [] [] 1 := ⟨_, _, Tryz.func115, Bg, by kernel_rfl, AA [] Tryz.progTables (by conv => lhs; cbv) (by kernel_rfl)⟩
def HU : Ir Tryz.prog 70 [] [] 1 := ⟨_, _, Tryz.func70, Bg, by kernel_rfl, AA [] Tryz.progTables (by conv => lhs; cbv) (by kernel_rfl)⟩
def HT : Ir Tryz.prog 160 [] [] 1 := ⟨_, _, Tryz.func160, Bg, by kernel_rfl, AA [] Tryz.progTables (by conv => lhs; cbv) (by kernel_rfl)⟩
def HV : Ir Tryz.prog 162 [] [] 1 := ⟨_, _, Tryz.func162, Bg, by kernel_rfl, AA [] Tryz.progTables (by conv => lhs; cbv) (by kernel_rfl)⟩
def HM : Ir Tryz.prog 98 [] [] 2 := ⟨_, _, Tryz.func98, Bg, by kernel_rfl, AA [] Tryz.progTables (by conv => lhs; cbv) (by kernel_rfl)⟩
def GZ : Ir Tryz.prog 130 [] [] 1 := ⟨_, _, Tryz.func130, Bg, by kernel_rfl, AA [] Tryz.progTables (by conv => lhs; cbv) (by kernel_rfl)⟩
def HO : Ir Tryz.prog 99 [] [] 1 := ⟨_, _, Tryz.func99, Bg, by kernel_rfl, AA [] Tryz.progTables (by conv => lhs; cbv) (by kernel_rfl)⟩
end Go.Proofs.YtoffpbehgncakaaGreat
set_option linter.unusedVariables false
set_option maxRecDepth 100000
namespace Go.Proofs.YtoffpbehgncakaaGreat
open Go.Proofs.YtoffpbehgncakaaGreat.Av

theorem HZ : Tryz.prog.follows .mixedOrders = true := by kernel_rfl

def IL : Ir Tryz.prog 18 [] [] 3 := ⟨_, _, Tryz.func18, HZ, by kernel_rfl, AA [] Tryz.progTables (by conv => lhs; cbv) (by kernel_rfl)⟩
def Kw : Ir Tryz.prog 106 [] [] 1 := ⟨_, _, Tryz.func106, HZ, by kernel_rfl, AA [] Tryz.progTables (by conv => lhs; cbv) (by kernel_rfl)⟩
end Go.Proofs.YtoffpbehgncakaaGreat
set_option linter.unusedVariables false
set_option linter.unusedSimpArgs false
set_option maxRecDepth 100000
namespace Go.Proofs.YtoffpbehgncakaaGreat
open Go.RowKit Go.Proofs.YtoffpbehgncakaaGreat.Av Go.Proofs.YtoffpbehgncakaaGreat.Ml
open Go.Proofs.YtoffpbehgncakaaGreat.Av.AVal (av)

theorem pu8 (n : Int) : Ap (.int .u8 n) := Ap.int _ _
theorem Dn (n lo hi : Int) : AH Tryz.prog 18 [.int .i64 n, .int .i64 lo, .int .i64 hi] (.bool (decide (lo ≤ n) && decide (n ≤ hi))) := by
 refine IL.F rfl (by simp; exact ⟨Ap.int _ _, Ap.int _ _, Ap.int _ _⟩) (Ap.bool _) ?_
 simp +contextual -dsimp only [↓SD, SU, simprocAttr, IL]
 (repeat' (first | intro _ | refine And.intro ?_ ?_))
 all_goals simp [*]

theorem b8 (s : ByteArray) (i : Nat) : (0 : Int) ≤ (A4 s i).toNat ∧ ((A4 s i).toNat : Int) ≤ 255 := by
 have := (A4 s i).toNat_lt; omega

def indexOf {α : Type} (l : List α) (p : α → Bool) : Int := match l.findIdx? p with | some i => (i : Int) | none => -1
theorem JT {α : Type} {l : List α} {p : α → Bool} {k : Nat} (hk : k < l.length) (h : (l.take k).all (fun x => !p x) = true) (hp : p l[k] = true) : indexOf l p = k := by
 have : l.findIdx? p = some k := by
  rw [List.findIdx?_eq_some_iff_getElem]
  refine ⟨hk, hp, fun j hj => ?_⟩
  have := (List.all_eq_true.1 h) l[j] (by rw [List.mem_take_iff_getElem]; exact ⟨j, by omega, rfl⟩)
  simpa using this
 simp [indexOf, this]
theorem Hm {α : Type} {l : List α} {p : α → Bool} (h : l.all (fun x => !p x) = true) : indexOf l p = -1 := by
 have : l.findIdx? p = none := by
  rw [List.findIdx?_eq_none_iff]
  intro x hx
  simpa using (List.all_eq_true.1 h) x hx
 simp [indexOf, this]
theorem IW {α : Type} (l : List α) (p : α → Bool) : decide (0 ≤ indexOf l p) = l.any p := by
 unfold indexOf
 cases h : l.findIdx? p with
 | none =>
  rw [List.findIdx?_eq_none_iff] at h
  have : l.any p = false := by rw [List.any_eq_false]; intro x hx; simp [h x hx]
  simp [this]
 | some i =>
  rw [List.findIdx?_eq_some_iff_getElem] at h
  obtain ⟨hi, hp, _⟩ := h
  have : l.any p = true := by rw [List.any_eq_true]; exact ⟨l[i], List.getElem_mem hi, hp⟩
  simp [this]
end Go.Proofs.YtoffpbehgncakaaGreat
