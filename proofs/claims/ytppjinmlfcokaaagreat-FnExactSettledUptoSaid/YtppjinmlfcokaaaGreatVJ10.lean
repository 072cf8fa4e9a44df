/-
  THE ABSTRACT TEXTS OF FUNCTIONS (LSettled), printed by irgen.py, and that they are the functions' own. Conditions: none.
-/
import Derived.Test.YtppjinmlfcokaaaGreatProg
import Derived.Test.YtppjinmlfcokaaaGreatVAvDraw
import Derived.Test.YtppjinmlfcokaaaGreatVJ07
import Derived.Test.YtppjinmlfcokaaaGreatVAvSimp
set_option linter.unusedVariables false
set_option maxRecDepth 100000
namespace Go.Proofs.YtppjinmlfcokaaaGreat
open Go.Proofs.YtppjinmlfcokaaaGreat.Av

theorem NA : Tryz.prog.follows .mixedOrders = true := by kernel_rfl

def F3 : Ir Tryz.prog 3 [(9, 7777)] [] 1 := ⟨_, _, Tryz.func3, NA, by kernel_rfl, Aj [] Tryz.progTables (by conv => lhs; cbv) (by kernel_rfl)⟩
end Go.Proofs.YtppjinmlfcokaaaGreat
set_option linter.unusedVariables false
set_option maxRecDepth 100000
namespace Go.Proofs.YtppjinmlfcokaaaGreat
open Go.Proofs.YtppjinmlfcokaaaGreat.Av

theorem Ed : Tryz.prog.follows .mixedOrders = true := by kernel_rfl

def Bf : Ir Tryz.prog 111 [] [] 3 := ⟨_, _, Tryz.func111, Ed, by kernel_rfl, Aj [] Tryz.progTables (by conv => lhs; cbv) (by kernel_rfl)⟩
def Bm : Ir Tryz.prog 114 [] [] 3 := ⟨_, _, Tryz.func114, Ed, by kernel_rfl, Aj [] Tryz.progTables (by conv => lhs; cbv) (by kernel_rfl)⟩
def A8 : Ir Tryz.prog 161 [] [] 3 := ⟨_, _, Tryz.func161, Ed, by kernel_rfl, Aj [] Tryz.progTables (by conv => lhs; cbv) (by kernel_rfl)⟩
def D0 : Ir Tryz.prog 113 [] [] 2 := ⟨_, _, Tryz.func113, Ed, by kernel_rfl, Aj [] Tryz.progTables (by conv => lhs; cbv) (by kernel_rfl)⟩
def Il : Ir Tryz.prog 54 [] [] 2 := ⟨_, _, Tryz.func54, Ed, by kernel_rfl, Aj [] Tryz.progTables (by conv => lhs; cbv) (by kernel_rfl)⟩
def G7 : Ir Tryz.prog 112 [] [] 2 := ⟨_, _, Tryz.func112, Ed, by kernel_rfl, Aj [] Tryz.progTables (by conv => lhs; cbv) (by kernel_rfl)⟩
def JR : Ir Tryz.prog 115 [] [] 2 := ⟨_, _, Tryz.func115, Ed, by kernel_rfl, Aj [] Tryz.progTables (by conv => lhs; cbv) (by kernel_rfl)⟩
def Ik : Ir Tryz.prog 162 [] [] 2 := ⟨_, _, Tryz.func162, Ed, by kernel_rfl, Aj [] Tryz.progTables (by conv => lhs; cbv) (by kernel_rfl)⟩
end Go.Proofs.YtppjinmlfcokaaaGreat
set_option linter.unusedVariables false
set_option maxRecDepth 100000
namespace Go.Proofs.YtppjinmlfcokaaaGreat
open Go.Proofs.YtppjinmlfcokaaaGreat.Av

theorem Oe : Tryz.prog.follows .mixedOrders = true := by kernel_rfl

def JS : Ir Tryz.prog 154 [] [] 0 := ⟨_, _, Tryz.func154, Oe, by kernel_rfl, Aj [] Tryz.progTables (by conv => lhs; cbv) (by kernel_rfl)⟩
def JE : Ir Tryz.prog 129 [] [] 1 := ⟨_, _, Tryz.func129, Oe, by kernel_rfl, Aj [] Tryz.progTables (by conv => lhs; cbv) (by kernel_rfl)⟩
end Go.Proofs.YtppjinmlfcokaaaGreat
set_option linter.unusedVariables false
set_option linter.unusedSimpArgs false
set_option maxRecDepth 100000
namespace Go.Proofs.YtppjinmlfcokaaaGreat
open Go.RowKit Go.Proofs.YtppjinmlfcokaaaGreat.Av Go.Proofs.YtppjinmlfcokaaaGreat.Ml
open Go.Proofs.YtppjinmlfcokaaaGreat.Av.AVal (av)

def opsL : List ByteArray := [bs [43], bs [45], bs [42], bs [47], bs [37], bs [94], bs [61], bs [60, 62], bs [60], bs [60, 61]]
theorem ZM : opsL.map av = [.str (bs [43]), .str (bs [45]), .str (bs [42]), .str (bs [47]), .str (bs [37]), .str (bs [94]), .str (bs [61]), .str (bs [60, 62]), .str (bs [60]), .str (bs [60, 61])] := rfl
theorem X0 : Ah Tryz.prog 154 [] (.sl (opsL.map av)) := by
 refine JS.F rfl (by simp) (Ak opsL) ?_
 simp +contextual -dsimp only [↓SD, SU, simprocAttr, JS, ZM]
theorem Cc (s : ByteArray) : Ah Tryz.prog 129 [.str s] (.bool (opsL.any (fun x => decide (s = x)))) := by
 refine JE.F rfl (by simp; exact Ad.str _) (Ad.bool _) ?_
 simp +contextual -dsimp only [↓SD, SU, simprocAttr, JE]
 refine Am (X := Nat) (fun k => ⟨[(0, .str s), (5, .sl (opsL.map av)), (6, .int .i64 opsL.length), (7, .int .i64 k)], []⟩) (fun k => k ≤ opsL.length ∧ (opsL.take k).all (fun x => !decide (s = x)) = true) (fun k => opsL.length - k) 0 ⟨Nat.zero_le _, rfl⟩ (by simp +contextual -dsimp only [↓SD, SU, simprocAttr, ZM]; rfl) trivial ?_
 intro k ⟨hk, hpk⟩
 have hk10 : opsL.length = 10 := rfl
 by_cases hlt : k < opsL.length
 ·have e := getD_map (av (α := ByteArray)) opsL k .top hlt
  simp +contextual -dsimp only [↓SD, SU, simprocAttr, Ab, e, Ce, hlt]
  refine ⟨fun h1 => ?_, fun h1 => ⟨by omega, ?_⟩⟩
  ·rw [List.any_eq_true.2 ⟨opsL[k], List.getElem_mem hlt, by simp [h1]⟩]
  ·exact Af.le ⟨k + 1, ⟨⟨hlt, by rw [A6 _ hlt hpk]; simp [h1]⟩, (by first | omega | (simp only; omega))⟩, rfl⟩ (by simp +contextual -dsimp only [↓SD, SU, simprocAttr, Int.natCast_add]) trivial
 ·obtain rfl : k = opsL.length := by omega
  rw [List.take_length] at hpk
  have : opsL.any (fun x => decide (s = x)) = false := by
   rw [List.any_eq_false]; intro x hx; simpa using List.all_eq_true.1 hpk x hx
  simp +contextual -dsimp only [↓SD, SU, simprocAttr, Ab, Nat.lt_irrefl, this]
end Go.Proofs.YtppjinmlfcokaaaGreat
set_option linter.unusedVariables false
namespace Go.Proofs.YtppjinmlfcokaaaGreat
open Go.RowKit Go.Proofs.YtppjinmlfcokaaaGreat.Av
open Go.Proofs.YtppjinmlfcokaaaGreat.Av.AVal (av)
open AVal (av)

theorem Ey {α : Type} {l : List α} {k : Nat} (h : k < l.length) (d : α) : l.getD k d = l[k] := by simp [List.getD_eq_getElem?_getD, h]
theorem Lb {α : Type} [AVal α] (d : List α) (z : α) {j : Nat} (h : j < d.length) : (d.map av).getD j .top = av (d.getD j z) := by
 rw [getD_map av d j .top h, Ey h]
theorem IG {α β : Type} (f : α → β) (l : List α) : (l.map f).take l.length = l.map f := by rw [List.take_of_length_le]; simp
def allI (p : Nat → Bool) (n : Nat) : Bool := (List.range n).all p
theorem YO {p : Nat → Bool} {n i : Nat} (hi : i < n) (h : p i = false) : allI p n = false := by
 unfold allI; rw [List.all_eq_false]; exact ⟨i, List.mem_range.2 hi, by simp [h]⟩
theorem M9 {p : Nat → Bool} {n : Nat} : allI p n = true ↔ ∀ i, i < n → p i = true := by
 unfold allI; rw [List.all_eq_true]; exact ⟨fun h i hi => h i (List.mem_range.2 hi), fun h i hi => h i (List.mem_range.1 hi)⟩
end Go.Proofs.YtppjinmlfcokaaaGreat
namespace Go.Proofs.YtppjinmlfcokaaaGreat

def BR (e : Nat → Option Nat) : List Int → Nat → Option Nat
 | [], nx => some nx
 | k :: ks, nx => if k = nx then (match e nx with | some m => BR e ks m | none => none) else none
def B9 (K : Nat → List Int) (n : Nat) : Nat → Nat → Option Nat
 | 0, _ => none
 | f + 1, i => if i < n then BR (B9 K n f) (K i) (i + 1) else none
def IF (K : Nat → List Int) (n f : Nat) (i : Int) (nx : Nat) : Option Nat := if i = nx then B9 K n f nx else none

theorem OV {e : Nat → Option Nat} {n : Nat} (he : ∀ a m, e a = some m → a < m ∧ m ≤ n) : ∀ {ks : List Int} {a m : Nat}, BR e ks a = some m → a ≤ n → a ≤ m ∧ m ≤ n
 | [], a, m, h, ha => by cases h; exact ⟨Nat.le_refl _, ha⟩
 | k :: ks, a, m, h, ha => by
  unfold BR at h
  split at h
  ·split at h
   ·rename_i m' hm'
    have h1 := he _ _ hm'
    have h2 := OV he h h1.2
    omega
   ·cases h
  ·cases h
theorem HS (K : Nat → List Int) (n : Nat) : ∀ (f a m : Nat), B9 K n f a = some m → a < m ∧ m ≤ n
 | 0, a, m, h => by cases h
 | f + 1, a, m, h => by
  unfold B9 at h
  split at h
  ·have := OV (HS K n f) h (by omega)
   omega
  ·cases h
theorem Sd {e e' : Nat → Option Nat} (he : ∀ a m, e a = some m → e' a = some m) : ∀ {ks : List Int} {a m : Nat}, BR e ks a = some m → BR e' ks a = some m
 | [], a, m, h => h
 | k :: ks, a, m, h => by
  unfold BR at h ⊢
  split at h
  ·rename_i hk
   rw [if_pos hk]
   split at h
   ·rename_i m' hm'
    rw [he _ _ hm']
    exact Sd he h
   ·cases h
  ·cases h
theorem Em (K : Nat → List Int) (n : Nat) : ∀ (f a m : Nat), B9 K n f a = some m → B9 K n (f + 1) a = some m
 | 0, a, m, h => by cases h
 | f + 1, a, m, h => by
  unfold B9 at h ⊢
  split at h
  ·rename_i hl; rw [if_pos hl]; exact Sd (Em K n f) h
  ·cases h
theorem AdL (K : Nat → List Int) (n : Nat) {f a m : Nat} (h : B9 K n f a = some m) : ∀ g, f ≤ g → B9 K n g a = some m := by
 intro g hg
 induction g with
 | zero =>
  obtain rfl : f = 0 := by omega
  exact h
 | succ g ih =>
  rcases Nat.lt_or_ge g f with h1 | h1
  ·obtain rfl : f = g + 1 := by omega
   exact h
  ·exact Em K n g a m (ih h1)
theorem Z9 {K : Nat → List Int} {n : Nat} {e : Nat → Option Nat} (hle : ∀ a m, e a = some m → a < m ∧ m ≤ n) (he : ∀ a m, e a = some m → ∀ i, a ≤ i → i < m → ∀ k ∈ K i, (i : Int) < k ∧ k < n) :
  ∀ {ks : List Int} {a m : Nat}, a ≤ n → BR e ks a = some m → (∀ k ∈ ks, (a : Int) ≤ k ∧ k < m) ∧ ∀ i, a ≤ i → i < m → ∀ k ∈ K i, (i : Int) < k ∧ k < n
 | [], a, m, _, h => by cases h; exact ⟨fun k hk => (by cases hk), fun i h1 h2 => by omega⟩
 | k :: ks, a, m, ha, h => by
  unfold BR at h
  split at h
  ·rename_i hk
   split at h
   ·rename_i m' hm'
    have h1 := hle _ _ hm'
    have h2 := Z9 hle he h1.2 h
    have h3 := OV hle h h1.2
    refine ⟨fun x hx => ?_, fun i h4 h5 => ?_⟩
    ·rcases List.mem_cons.1 hx with rfl | hx
     ·omega
     ·have := h2.1 x hx; omega
    ·rcases Nat.lt_or_ge i m' with h6 | h6
     ·exact he _ _ hm' i h4 h6
     ·exact h2.2 i h6 h5
   ·cases h
  ·cases h
theorem AdM (K : Nat → List Int) (n : Nat) : ∀ (f a m : Nat), B9 K n f a = some m → ∀ i, a ≤ i → i < m → ∀ k ∈ K i, (i : Int) < k ∧ k < n
 | 0, a, m, h => by cases h
 | f + 1, a, m, h => by
  have hm := HS K n (f + 1) a m h
  unfold B9 at h
  split at h
  ·rename_i hl
   have h1 := Z9 (HS K n f) (AdM K n f) (by omega) h
   intro i hi him k hk
   rcases Nat.lt_or_ge a i with h2 | h2
   ·exact h1.2 i (by omega) him k hk
   ·obtain rfl : i = a := by omega
    have := h1.1 k hk
    omega
  ·cases h
def Fh (K : Nat → List Int) (n : Nat) : Bool := decide (B9 K n (n + 1) 0 = some n)
theorem Ef {K : Nat → List Int} {n : Nat} (h : Fh K n = true) {i : Nat} (hi : i < n) {k : Int} (hk : k ∈ K i) : (i : Int) < k ∧ k < n :=
 AdM K n _ 0 n (of_decide_eq_true h) i (Nat.zero_le _) hi k hk
end Go.Proofs.YtppjinmlfcokaaaGreat
set_option linter.unusedVariables false
set_option maxRecDepth 100000
namespace Go.Proofs.YtppjinmlfcokaaaGreat
open Go.Proofs.YtppjinmlfcokaaaGreat.Av

theorem BA : Tryz.prog.follows .mixedOrders = true := by kernel_rfl

def I4 : Ir Tryz.prog 155 [] [] 3 := ⟨_, _, Tryz.func155, BA, by kernel_rfl, Aj [] Tryz.progTables (by conv => lhs; cbv) (by kernel_rfl)⟩
def Lt : Ir Tryz.prog 157 [] [] 1 := ⟨_, _, Tryz.func157, BA, by kernel_rfl, Aj [] Tryz.progTables (by conv => lhs; cbv) (by kernel_rfl)⟩
def KG : Ir Tryz.prog 49 [] [] 1 := ⟨_, _, Tryz.func49, BA, by kernel_rfl, Aj [] Tryz.progTables (by conv => lhs; cbv) (by kernel_rfl)⟩
def I3 : Ir Tryz.prog 102 [] [] 0 := ⟨_, _, Tryz.func102, BA, by kernel_rfl, Aj [] Tryz.progTables (by conv => lhs; cbv) (by kernel_rfl)⟩
def DK : Ir Tryz.prog 101 [] [] 2 := ⟨_, _, Tryz.func101, BA, by kernel_rfl, Aj [] Tryz.progTables (by conv => lhs; cbv) (by kernel_rfl)⟩
def Eb : Ir Tryz.prog 160 [] [] 2 := ⟨_, _, Tryz.func160, BA, by kernel_rfl, Aj [] Tryz.progTables (by conv => lhs; cbv) (by kernel_rfl)⟩
def IW : Ir Tryz.prog 130 [] [] 3 := ⟨_, _, Tryz.func130, BA, by kernel_rfl, Aj [] Tryz.progTables (by conv => lhs; cbv) (by kernel_rfl)⟩
def Ll : Ir Tryz.prog 127 [] [] 1 := ⟨_, _, Tryz.func127, BA, by kernel_rfl, Aj [] Tryz.progTables (by conv => lhs; cbv) (by kernel_rfl)⟩
def Ko : Ir Tryz.prog 61 [] [] 1 := ⟨_, _, Tryz.func61, BA, by kernel_rfl, Aj [] Tryz.progTables (by conv => lhs; cbv) (by kernel_rfl)⟩
def KA : Ir Tryz.prog 99 [] [] 1 := ⟨_, _, Tryz.func99, BA, by kernel_rfl, Aj [] Tryz.progTables (by conv => lhs; cbv) (by kernel_rfl)⟩
def KE : Ir Tryz.prog 159 [] [] 1 := ⟨_, _, Tryz.func159, BA, by kernel_rfl, Aj [] Tryz.progTables (by conv => lhs; cbv) (by kernel_rfl)⟩
def JV : Ir Tryz.prog 100 [] [] 1 := ⟨_, _, Tryz.func100, BA, by kernel_rfl, Aj [] Tryz.progTables (by conv => lhs; cbv) (by kernel_rfl)⟩
def JT : Ir Tryz.prog 188 [] [] 1 := ⟨_, _, Tryz.func188, BA, by kernel_rfl, Aj [] Tryz.progTables (by conv => lhs; cbv) (by kernel_rfl)⟩
def JW : Ir Tryz.prog 190 [] [] 1 := ⟨_, _, Tryz.func190, BA, by kernel_rfl, Aj [] Tryz.progTables (by conv => lhs; cbv) (by kernel_rfl)⟩
def JH : Ir Tryz.prog 125 [] [] 2 := ⟨_, _, Tryz.func125, BA, by kernel_rfl, Aj [] Tryz.progTables (by conv => lhs; cbv) (by kernel_rfl)⟩
def IX : Ir Tryz.prog 168 [] [] 1 := ⟨_, _, Tryz.func168, BA, by kernel_rfl, Aj [] Tryz.progTables (by conv => lhs; cbv) (by kernel_rfl)⟩
def JI : Ir Tryz.prog 126 [] [] 1 := ⟨_, _, Tryz.func126, BA, by kernel_rfl, Aj [] Tryz.progTables (by conv => lhs; cbv) (by kernel_rfl)⟩
end Go.Proofs.YtppjinmlfcokaaaGreat
set_option linter.unusedVariables false
set_option maxRecDepth 100000
namespace Go.Proofs.YtppjinmlfcokaaaGreat
open Go.Proofs.YtppjinmlfcokaaaGreat.Av

theorem J0 : Tryz.prog.follows .mixedOrders = true := by kernel_rfl

def KB : Ir Tryz.prog 92 [] [] 3 := ⟨_, _, Tryz.func92, J0, by kernel_rfl, Aj [] Tryz.progTables (by conv => lhs; cbv) (by kernel_rfl)⟩
def Hj : Ir Tryz.prog 176 [] [] 1 := ⟨_, _, Tryz.func176, J0, by kernel_rfl, Aj [] Tryz.progTables (by conv => lhs; cbv) (by kernel_rfl)⟩
end Go.Proofs.YtppjinmlfcokaaaGreat
set_option linter.unusedVariables false
set_option linter.unusedSimpArgs false
set_option maxRecDepth 100000
namespace Go.Proofs.YtppjinmlfcokaaaGreat
open Go.RowKit Go.Proofs.YtppjinmlfcokaaaGreat.Av Go.Proofs.YtppjinmlfcokaaaGreat.Ml
open Go.Proofs.YtppjinmlfcokaaaGreat.Av.AVal (av)

theorem pu8 (n : Int) : Ad (.int .u8 n) := Ad.int _ _
theorem EP (n lo hi : Int) : Ah Tryz.prog 92 [.int .i64 n, .int .i64 lo, .int .i64 hi] (.bool (decide (lo ≤ n) && decide (n ≤ hi))) := by
 refine KB.F rfl (by simp; exact ⟨Ad.int _ _, Ad.int _ _, Ad.int _ _⟩) (Ad.bool _) ?_
 simp +contextual -dsimp only [↓SD, SU, simprocAttr, KB]
 (repeat' (first | intro _ | refine And.intro ?_ ?_))
 all_goals simp [*]

theorem b8 (s : ByteArray) (i : Nat) : (0 : Int) ≤ (CU s i).toNat ∧ ((CU s i).toNat : Int) ≤ 255 := by
 have := (CU s i).toNat_lt; omega

def indexOf {α : Type} (l : List α) (p : α → Bool) : Int := match l.findIdx? p with | some i => (i : Int) | none => -1
theorem LO {α : Type} {l : List α} {p : α → Bool} {k : Nat} (hk : k < l.length) (h : (l.take k).all (fun x => !p x) = true) (hp : p l[k] = true) : indexOf l p = k := by
 have : l.findIdx? p = some k := by
  rw [List.findIdx?_eq_some_iff_getElem]
  refine ⟨hk, hp, fun j hj => ?_⟩
  have := (List.all_eq_true.1 h) l[j] (by rw [List.mem_take_iff_getElem]; exact ⟨j, by omega, rfl⟩)
  simpa using this
 simp [indexOf, this]
theorem Jn {α : Type} {l : List α} {p : α → Bool} (h : l.all (fun x => !p x) = true) : indexOf l p = -1 := by
 have : l.findIdx? p = none := by
  rw [List.findIdx?_eq_none_iff]
  intro x hx
  simpa using (List.all_eq_true.1 h) x hx
 simp [indexOf, this]
theorem KH {α : Type} (l : List α) (p : α → Bool) : decide (0 ≤ indexOf l p) = l.any p := by
 unfold indexOf
 cases h : l.findIdx? p with
 | none =>
  rw [List.findIdx?_eq_none_iff] at h
  have : l.any p = false := by rw [List.any_eq_false]; intro x hx; simp [h x hx]
  simp [this]
 | some i =>
  rw [List.findIdx?_eq_some_iff_getElem] at h
  obtain ⟨hi, hp, _⟩ := h
  have : l.any p = true := by rw [List.any_eq_true]; exact ⟨l[i], List.getElem_mem hi, hp⟩
  simp [this]
end Go.Proofs.YtppjinmlfcokaaaGreat
