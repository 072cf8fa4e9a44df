/-
  THE ABSTRACT TEXTS OF FUNCTIONS (Binds), printed by irgen.py, and that they are the functions' own. Conditions: none.
-/
import Derived.Test.YtppjinmlfcokaaaGreatProg
import Derived.Test.YtppjinmlfcokaaaGreatJAvDraw
import Derived.Test.YtppjinmlfcokaaaGreatJJ07
import Derived.Test.YtppjinmlfcokaaaGreatJAvSimp
set_option linter.unusedVariables false
set_option maxRecDepth 100000
namespace Go.Proofs.YtppjinmlfcokaaaGreat
open Go.Proofs.YtppjinmlfcokaaaGreat.Av

theorem Q9 : Tryz.prog.follows .mixedOrders = true := by kernel_rfl

def Jo : Ir Tryz.prog 197 [] [] 1 := ⟨_, _, Tryz.func197, Q9, by kernel_rfl, Ah [] Tryz.progTables (by conv => lhs; cbv) (by kernel_rfl)⟩
end Go.Proofs.YtppjinmlfcokaaaGreat
set_option linter.unusedVariables false
set_option maxRecDepth 100000
namespace Go.Proofs.YtppjinmlfcokaaaGreat
open Go.Proofs.YtppjinmlfcokaaaGreat.Av

theorem B4 : Tryz.prog.follows .mixedOrders = true := by kernel_rfl

def LL : Ir Tryz.prog 153 [] [] 1 := ⟨_, _, Tryz.func153, B4, by kernel_rfl, Ah [] Tryz.progTables (by conv => lhs; cbv) (by kernel_rfl)⟩
def Dw : Ir Tryz.prog 95 [] [] 3 := ⟨_, _, Tryz.func95, B4, by kernel_rfl, Ah [] Tryz.progTables (by conv => lhs; cbv) (by kernel_rfl)⟩
def EB : Ir Tryz.prog 98 [] [] 1 := ⟨_, _, Tryz.func98, B4, by kernel_rfl, Ah [] Tryz.progTables (by conv => lhs; cbv) (by kernel_rfl)⟩
def Fu : Ir Tryz.prog 47 [] [] 2 := ⟨_, _, Tryz.func47, B4, by kernel_rfl, Ah [] Tryz.progTables (by conv => lhs; cbv) (by kernel_rfl)⟩
def Ip : Ir Tryz.prog 94 [] [] 2 := ⟨_, _, Tryz.func94, B4, by kernel_rfl, Ah [] Tryz.progTables (by conv => lhs; cbv) (by kernel_rfl)⟩
def Io : Ir Tryz.prog 97 [] [] 1 := ⟨_, _, Tryz.func97, B4, by kernel_rfl, Ah [] Tryz.progTables (by conv => lhs; cbv) (by kernel_rfl)⟩
def Iu : Ir Tryz.prog 22 [] [] 1 := ⟨_, _, Tryz.func22, B4, by kernel_rfl, Ah [] Tryz.progTables (by conv => lhs; cbv) (by kernel_rfl)⟩
def G8 : Ir Tryz.prog 48 [] [] 1 := ⟨_, _, Tryz.func48, B4, by kernel_rfl, Ah [] Tryz.progTables (by conv => lhs; cbv) (by kernel_rfl)⟩
def G7 : Ir Tryz.prog 51 [] [] 1 := ⟨_, _, Tryz.func51, B4, by kernel_rfl, Ah [] Tryz.progTables (by conv => lhs; cbv) (by kernel_rfl)⟩
def J5 : Ir Tryz.prog 132 [] [] 1 := ⟨_, _, Tryz.func132, B4, by kernel_rfl, Ah [] Tryz.progTables (by conv => lhs; cbv) (by kernel_rfl)⟩
def AO : Ir Tryz.prog 63 [] [] 2 := ⟨_, _, Tryz.func63, B4, by kernel_rfl, Ah [] Tryz.progTables (by conv => lhs; cbv) (by kernel_rfl)⟩
def GW : Ir Tryz.prog 64 [] [] 2 := ⟨_, _, Tryz.func64, B4, by kernel_rfl, Ah [] Tryz.progTables (by conv => lhs; cbv) (by kernel_rfl)⟩
def FW : Ir Tryz.prog 62 [] [] 2 := ⟨_, _, Tryz.func62, B4, by kernel_rfl, Ah [] Tryz.progTables (by conv => lhs; cbv) (by kernel_rfl)⟩
def F0 : Ir Tryz.prog 29 [] [] 1 := ⟨_, _, Tryz.func29, B4, by kernel_rfl, Ah [] Tryz.progTables (by conv => lhs; cbv) (by kernel_rfl)⟩
end Go.Proofs.YtppjinmlfcokaaaGreat
set_option linter.unusedVariables false
set_option maxRecDepth 100000
namespace Go.Proofs.YtppjinmlfcokaaaGreat
open Go.Proofs.YtppjinmlfcokaaaGreat.Av

theorem Ow : Tryz.prog.follows .mixedOrders = true := by kernel_rfl

def Kf : Ir Tryz.prog 154 [] [] 0 := ⟨_, _, Tryz.func154, Ow, by kernel_rfl, Ah [] Tryz.progTables (by conv => lhs; cbv) (by kernel_rfl)⟩
def J4 : Ir Tryz.prog 129 [] [] 1 := ⟨_, _, Tryz.func129, Ow, by kernel_rfl, Ah [] Tryz.progTables (by conv => lhs; cbv) (by kernel_rfl)⟩
end Go.Proofs.YtppjinmlfcokaaaGreat
set_option linter.unusedVariables false
set_option linter.unusedSimpArgs false
set_option maxRecDepth 100000
namespace Go.Proofs.YtppjinmlfcokaaaGreat
open Go.RowKit Go.Proofs.YtppjinmlfcokaaaGreat.Av Go.Proofs.YtppjinmlfcokaaaGreat.Ml
open Go.Proofs.YtppjinmlfcokaaaGreat.Av.AVal (av)

def opsL : List ByteArray := [bs [43], bs [45], bs [42], bs [47], bs [37], bs [94], bs [61], bs [60, 62], bs [60], bs [60, 61]]
theorem Zo : opsL.map av = [.str (bs [43]), .str (bs [45]), .str (bs [42]), .str (bs [47]), .str (bs [37]), .str (bs [94]), .str (bs [61]), .str (bs [60, 62]), .str (bs [60]), .str (bs [60, 61])] := rfl
theorem XS : Ak Tryz.prog 154 [] (.sl (opsL.map av)) := by
 refine Kf.F rfl (by simp) (Ao opsL) ?_
 simp +contextual -dsimp only [↓SD, SU, simprocAttr, Kf, Zo]
theorem Cg (s : ByteArray) : Ak Tryz.prog 129 [.str s] (.bool (opsL.any (fun x => decide (s = x)))) := by
 refine J4.F rfl (by simp; exact Ae.str _) (Ae.bool _) ?_
 simp +contextual -dsimp only [↓SD, SU, simprocAttr, J4]
 refine Am (X := Nat) (fun k => ⟨[(0, .str s), (5, .sl (opsL.map av)), (6, .int .i64 opsL.length), (7, .int .i64 k)], []⟩) (fun k => k ≤ opsL.length ∧ (opsL.take k).all (fun x => !decide (s = x)) = true) (fun k => opsL.length - k) 0 ⟨Nat.zero_le _, rfl⟩ (by simp +contextual -dsimp only [↓SD, SU, simprocAttr, Zo]; rfl) trivial ?_
 intro k ⟨hk, hpk⟩
 have hk10 : opsL.length = 10 := rfl
 by_cases hlt : k < opsL.length
 ·have e := getD_map (av (α := ByteArray)) opsL k .top hlt
  simp +contextual -dsimp only [↓SD, SU, simprocAttr, Aa, e, NV, hlt]
  refine ⟨fun h1 => ?_, fun h1 => ⟨by omega, ?_⟩⟩
  ·rw [List.any_eq_true.2 ⟨opsL[k], List.getElem_mem hlt, by simp [h1]⟩]
  ·exact Af.le ⟨k + 1, ⟨⟨hlt, by rw [A9 _ hlt hpk]; simp [h1]⟩, (by first | omega | (simp only; omega))⟩, rfl⟩ (by simp +contextual -dsimp only [↓SD, SU, simprocAttr, Int.natCast_add]) trivial
 ·obtain rfl : k = opsL.length := by omega
  rw [List.take_length] at hpk
  have : opsL.any (fun x => decide (s = x)) = false := by
   rw [List.any_eq_false]; intro x hx; simpa using List.all_eq_true.1 hpk x hx
  simp +contextual -dsimp only [↓SD, SU, simprocAttr, Aa, Nat.lt_irrefl, this]
end Go.Proofs.YtppjinmlfcokaaaGreat
set_option linter.unusedVariables false
set_option maxRecDepth 100000
namespace Go.Proofs.YtppjinmlfcokaaaGreat
open Go.Proofs.YtppjinmlfcokaaaGreat.Av

theorem FH : Tryz.prog.follows .mixedOrders = true := by kernel_rfl

def LM : Ir Tryz.prog 52 [] [] 1 := ⟨_, _, Tryz.func52, FH, by kernel_rfl, Ah [] Tryz.progTables (by conv => lhs; cbv) (by kernel_rfl)⟩
def Kl : Ir Tryz.prog 104 [] [] 2 := ⟨_, _, Tryz.func104, FH, by kernel_rfl, Ah [] Tryz.progTables (by conv => lhs; cbv) (by kernel_rfl)⟩
def F4 : Ir Tryz.prog 105 [] [] 2 := ⟨_, _, Tryz.func105, FH, by kernel_rfl, Ah [] Tryz.progTables (by conv => lhs; cbv) (by kernel_rfl)⟩
def LD : Ir Tryz.prog 131 [] [] 1 := ⟨_, _, Tryz.func131, FH, by kernel_rfl, Ah [] Tryz.progTables (by conv => lhs; cbv) (by kernel_rfl)⟩
def Dr : Ir Tryz.prog 170 [] [] 2 := ⟨_, _, Tryz.func170, FH, by kernel_rfl, Ah [] Tryz.progTables (by conv => lhs; cbv) (by kernel_rfl)⟩
def GV : Ir Tryz.prog 171 [] [] 2 := ⟨_, _, Tryz.func171, FH, by kernel_rfl, Ah [] Tryz.progTables (by conv => lhs; cbv) (by kernel_rfl)⟩
end Go.Proofs.YtppjinmlfcokaaaGreat
set_option linter.unusedVariables false
namespace Go.Proofs.YtppjinmlfcokaaaGreat
open Go.RowKit Go.Proofs.YtppjinmlfcokaaaGreat.Av
open Go.Proofs.YtppjinmlfcokaaaGreat.Av.AVal (av)
open AVal (av)

theorem ES {α : Type} {l : List α} {k : Nat} (h : k < l.length) (d : α) : l.getD k d = l[k] := by simp [List.getD_eq_getElem?_getD, h]
theorem Lw {α : Type} [AVal α] (d : List α) (z : α) {j : Nat} (h : j < d.length) : (d.map av).getD j .top = av (d.getD j z) := by
 rw [getD_map av d j .top h, ES h]
theorem IL {α β : Type} (f : α → β) (l : List α) : (l.map f).take l.length = l.map f := by rw [List.take_of_length_le]; simp
def allI (p : Nat → Bool) (n : Nat) : Bool := (List.range n).all p
theorem YA {p : Nat → Bool} {n i : Nat} (hi : i < n) (h : p i = false) : allI p n = false := by
 unfold allI; rw [List.all_eq_false]; exact ⟨i, List.mem_range.2 hi, by simp [h]⟩
theorem W8 {p : Nat → Bool} {n : Nat} : allI p n = true ↔ ∀ i, i < n → p i = true := by
 unfold allI; rw [List.all_eq_true]; exact ⟨fun h i hi => h i (List.mem_range.2 hi), fun h i hi => h i (List.mem_range.1 hi)⟩
end Go.Proofs.YtppjinmlfcokaaaGreat
namespace Go.Proofs.YtppjinmlfcokaaaGreat

def Dj (e : Nat → Option Nat) : List Int → Nat → Option Nat
 | [], nx => some nx
 | k :: ks, nx => if k = nx then (match e nx with | some m => Dj e ks m | none => none) else none
def Cv (K : Nat → List Int) (n : Nat) : Nat → Nat → Option Nat
 | 0, _ => none
 | f + 1, i => if i < n then Dj (Cv K n f) (K i) (i + 1) else none
def IK (K : Nat → List Int) (n f : Nat) (i : Int) (nx : Nat) : Option Nat := if i = nx then Cv K n f nx else none

theorem O5 {e : Nat → Option Nat} {n : Nat} (he : ∀ a m, e a = some m → a < m ∧ m ≤ n) : ∀ {ks : List Int} {a m : Nat}, Dj e ks a = some m → a ≤ n → a ≤ m ∧ m ≤ n
 | [], a, m, h, ha => by cases h; exact ⟨Nat.le_refl _, ha⟩
 | k :: ks, a, m, h, ha => by
  unfold Dj at h
  split at h
  ·split at h
   ·rename_i m' hm'
    have h1 := he _ _ hm'
    have h2 := O5 he h h1.2
    omega
   ·cases h
  ·cases h
theorem HS (K : Nat → List Int) (n : Nat) : ∀ (f a m : Nat), Cv K n f a = some m → a < m ∧ m ≤ n
 | 0, a, m, h => by cases h
 | f + 1, a, m, h => by
  unfold Cv at h
  split at h
  ·have := O5 (HS K n f) h (by omega)
   omega
  ·cases h
theorem Se {e e' : Nat → Option Nat} (he : ∀ a m, e a = some m → e' a = some m) : ∀ {ks : List Int} {a m : Nat}, Dj e ks a = some m → Dj e' ks a = some m
 | [], a, m, h => h
 | k :: ks, a, m, h => by
  unfold Dj at h ⊢
  split at h
  ·rename_i hk
   rw [if_pos hk]
   split at h
   ·rename_i m' hm'
    rw [he _ _ hm']
    exact Se he h
   ·cases h
  ·cases h
theorem Wt (K : Nat → List Int) (n : Nat) : ∀ (f a m : Nat), Cv K n f a = some m → Cv K n (f + 1) a = some m
 | 0, a, m, h => by cases h
 | f + 1, a, m, h => by
  unfold Cv at h ⊢
  split at h
  ·rename_i hl; rw [if_pos hl]; exact Se (Wt K n f) h
  ·cases h
theorem Adg (K : Nat → List Int) (n : Nat) {f a m : Nat} (h : Cv K n f a = some m) : ∀ g, f ≤ g → Cv K n g a = some m := by
 intro g hg
 induction g with
 | zero =>
  obtain rfl : f = 0 := by omega
  exact h
 | succ g ih =>
  rcases Nat.lt_or_ge g f with h1 | h1
  ·obtain rfl : f = g + 1 := by omega
   exact h
  ·exact Wt K n g a m (ih h1)
theorem ZL {K : Nat → List Int} {n : Nat} {e : Nat → Option Nat} (hle : ∀ a m, e a = some m → a < m ∧ m ≤ n) (he : ∀ a m, e a = some m → ∀ i, a ≤ i → i < m → ∀ k ∈ K i, (i : Int) < k ∧ k < n) :
  ∀ {ks : List Int} {a m : Nat}, a ≤ n → Dj e ks a = some m → (∀ k ∈ ks, (a : Int) ≤ k ∧ k < m) ∧ ∀ i, a ≤ i → i < m → ∀ k ∈ K i, (i : Int) < k ∧ k < n
 | [], a, m, _, h => by cases h; exact ⟨fun k hk => (by cases hk), fun i h1 h2 => by omega⟩
 | k :: ks, a, m, ha, h => by
  unfold Dj at h
  split at h
  ·rename_i hk
   split at h
   ·rename_i m' hm'
    have h1 := hle _ _ hm'
    have h2 := ZL hle he h1.2 h
    have h3 := O5 hle h h1.2
    refine ⟨fun x hx => ?_, fun i h4 h5 => ?_⟩
    ·rcases List.mem_cons.1 hx with rfl | hx
     ·omega
     ·have := h2.1 x hx; omega
    ·rcases Nat.lt_or_ge i m' with h6 | h6
     ·exact he _ _ hm' i h4 h6
     ·exact h2.2 i h6 h5
   ·cases h
  ·cases h
theorem Adh (K : Nat → List Int) (n : Nat) : ∀ (f a m : Nat), Cv K n f a = some m → ∀ i, a ≤ i → i < m → ∀ k ∈ K i, (i : Int) < k ∧ k < n
 | 0, a, m, h => by cases h
 | f + 1, a, m, h => by
  have hm := HS K n (f + 1) a m h
  unfold Cv at h
  split at h
  ·rename_i hl
   have h1 := ZL (HS K n f) (Adh K n f) (by omega) h
   intro i hi him k hk
   rcases Nat.lt_or_ge a i with h2 | h2
   ·exact h1.2 i (by omega) him k hk
   ·obtain rfl : i = a := by omega
    have := h1.1 k hk
    omega
  ·cases h
def Fc (K : Nat → List Int) (n : Nat) : Bool := decide (Cv K n (n + 1) 0 = some n)
theorem DM {K : Nat → List Int} {n : Nat} (h : Fc K n = true) {i : Nat} (hi : i < n) {k : Int} (hk : k ∈ K i) : (i : Int) < k ∧ k < n :=
 Adh K n _ 0 n (of_decide_eq_true h) i (Nat.zero_le _) hi k hk
end Go.Proofs.YtppjinmlfcokaaaGreat
set_option linter.unusedVariables false
set_option maxRecDepth 100000
namespace Go.Proofs.YtppjinmlfcokaaaGreat
open Go.Proofs.YtppjinmlfcokaaaGreat.Av

theorem BD : Tryz.prog.follows .mixedOrders = true := by kernel_rfl

def Jq : Ir Tryz.prog 155 [] [] 3 := ⟨_, _, Tryz.func155, BD, by kernel_rfl, Ah [] Tryz.progTables (by conv => lhs; cbv) (by kernel_rfl)⟩
def LN : Ir Tryz.prog 157 [] [] 1 := ⟨_, _, Tryz.func157, BD, by kernel_rfl, Ah [] Tryz.progTables (by conv => lhs; cbv) (by kernel_rfl)⟩
def K0 : Ir Tryz.prog 49 [] [] 1 := ⟨_, _, Tryz.func49, BD, by kernel_rfl, Ah [] Tryz.progTables (by conv => lhs; cbv) (by kernel_rfl)⟩
def Jp : Ir Tryz.prog 102 [] [] 0 := ⟨_, _, Tryz.func102, BD, by kernel_rfl, Ah [] Tryz.progTables (by conv => lhs; cbv) (by kernel_rfl)⟩
def DD : Ir Tryz.prog 101 [] [] 2 := ⟨_, _, Tryz.func101, BD, by kernel_rfl, Ah [] Tryz.progTables (by conv => lhs; cbv) (by kernel_rfl)⟩
def D0 : Ir Tryz.prog 160 [] [] 2 := ⟨_, _, Tryz.func160, BD, by kernel_rfl, Ah [] Tryz.progTables (by conv => lhs; cbv) (by kernel_rfl)⟩
def I6 : Ir Tryz.prog 130 [] [] 3 := ⟨_, _, Tryz.func130, BD, by kernel_rfl, Ah [] Tryz.progTables (by conv => lhs; cbv) (by kernel_rfl)⟩
def LF : Ir Tryz.prog 127 [] [] 1 := ⟨_, _, Tryz.func127, BD, by kernel_rfl, Ah [] Tryz.progTables (by conv => lhs; cbv) (by kernel_rfl)⟩
def KH : Ir Tryz.prog 61 [] [] 1 := ⟨_, _, Tryz.func61, BD, by kernel_rfl, Ah [] Tryz.progTables (by conv => lhs; cbv) (by kernel_rfl)⟩
def KU : Ir Tryz.prog 99 [] [] 1 := ⟨_, _, Tryz.func99, BD, by kernel_rfl, Ah [] Tryz.progTables (by conv => lhs; cbv) (by kernel_rfl)⟩
def KY : Ir Tryz.prog 159 [] [] 1 := ⟨_, _, Tryz.func159, BD, by kernel_rfl, Ah [] Tryz.progTables (by conv => lhs; cbv) (by kernel_rfl)⟩
def Ki : Ir Tryz.prog 100 [] [] 1 := ⟨_, _, Tryz.func100, BD, by kernel_rfl, Ah [] Tryz.progTables (by conv => lhs; cbv) (by kernel_rfl)⟩
def Kg : Ir Tryz.prog 188 [] [] 1 := ⟨_, _, Tryz.func188, BD, by kernel_rfl, Ah [] Tryz.progTables (by conv => lhs; cbv) (by kernel_rfl)⟩
def Kj : Ir Tryz.prog 190 [] [] 1 := ⟨_, _, Tryz.func190, BD, by kernel_rfl, Ah [] Tryz.progTables (by conv => lhs; cbv) (by kernel_rfl)⟩
def J6 : Ir Tryz.prog 125 [] [] 2 := ⟨_, _, Tryz.func125, BD, by kernel_rfl, Ah [] Tryz.progTables (by conv => lhs; cbv) (by kernel_rfl)⟩
def I7 : Ir Tryz.prog 168 [] [] 1 := ⟨_, _, Tryz.func168, BD, by kernel_rfl, Ah [] Tryz.progTables (by conv => lhs; cbv) (by kernel_rfl)⟩
def J7 : Ir Tryz.prog 126 [] [] 1 := ⟨_, _, Tryz.func126, BD, by kernel_rfl, Ah [] Tryz.progTables (by conv => lhs; cbv) (by kernel_rfl)⟩
end Go.Proofs.YtppjinmlfcokaaaGreat
set_option linter.unusedVariables false
set_option maxRecDepth 100000
namespace Go.Proofs.YtppjinmlfcokaaaGreat
open Go.Proofs.YtppjinmlfcokaaaGreat.Av

theorem Ko : Tryz.prog.follows .mixedOrders = true := by kernel_rfl

def KV : Ir Tryz.prog 92 [] [] 3 := ⟨_, _, Tryz.func92, Ko, by kernel_rfl, Ah [] Tryz.progTables (by conv => lhs; cbv) (by kernel_rfl)⟩
def MV : Ir Tryz.prog 176 [] [] 1 := ⟨_, _, Tryz.func176, Ko, by kernel_rfl, Ah [] Tryz.progTables (by conv => lhs; cbv) (by kernel_rfl)⟩
end Go.Proofs.YtppjinmlfcokaaaGreat
set_option linter.unusedVariables false
set_option linter.unusedSimpArgs false
set_option maxRecDepth 100000
namespace Go.Proofs.YtppjinmlfcokaaaGreat
open Go.RowKit Go.Proofs.YtppjinmlfcokaaaGreat.Av Go.Proofs.YtppjinmlfcokaaaGreat.Ml
open Go.Proofs.YtppjinmlfcokaaaGreat.Av.AVal (av)

theorem pu8 (n : Int) : Ae (.int .u8 n) := Ae.int _ _
theorem EF (n lo hi : Int) : Ak Tryz.prog 92 [.int .i64 n, .int .i64 lo, .int .i64 hi] (.bool (decide (lo ≤ n) && decide (n ≤ hi))) := by
 refine KV.F rfl (by simp; exact ⟨Ae.int _ _, Ae.int _ _, Ae.int _ _⟩) (Ae.bool _) ?_
 simp +contextual -dsimp only [↓SD, SU, simprocAttr, KV]
 (repeat' (first | intro _ | refine And.intro ?_ ?_))
 all_goals simp [*]

theorem b8 (s : ByteArray) (i : Nat) : (0 : Int) ≤ (DX s i).toNat ∧ ((DX s i).toNat : Int) ≤ 255 := by
 have := (DX s i).toNat_lt; omega

def indexOf {α : Type} (l : List α) (p : α → Bool) : Int := match l.findIdx? p with | some i => (i : Int) | none => -1
theorem L6 {α : Type} {l : List α} {p : α → Bool} {k : Nat} (hk : k < l.length) (h : (l.take k).all (fun x => !p x) = true) (hp : p l[k] = true) : indexOf l p = k := by
 have : l.findIdx? p = some k := by
  rw [List.findIdx?_eq_some_iff_getElem]
  refine ⟨hk, hp, fun j hj => ?_⟩
  have := (List.all_eq_true.1 h) l[j] (by rw [List.mem_take_iff_getElem]; exact ⟨j, by omega, rfl⟩)
  simpa using this
 simp [indexOf, this]
theorem JK {α : Type} {l : List α} {p : α → Bool} (h : l.all (fun x => !p x) = true) : indexOf l p = -1 := by
 have : l.findIdx? p = none := by
  rw [List.findIdx?_eq_none_iff]
  intro x hx
  simpa using (List.all_eq_true.1 h) x hx
 simp [indexOf, this]
theorem K1 {α : Type} (l : List α) (p : α → Bool) : decide (0 ≤ indexOf l p) = l.any p := by
 unfold indexOf
 cases h : l.findIdx? p with
 | none =>
  rw [List.findIdx?_eq_none_iff] at h
  have : l.any p = false := by rw [List.any_eq_false]; intro x hx; simp [h x hx]
  simp [this]
 | some i =>
  rw [List.findIdx?_eq_some_iff_getElem] at h
  obtain ⟨hi, hp, _⟩ := h
  have : l.any p = true := by rw [List.any_eq_true]; exact ⟨l[i], List.getElem_mem hi, hp⟩
  simp [this]
end Go.Proofs.YtppjinmlfcokaaaGreat
