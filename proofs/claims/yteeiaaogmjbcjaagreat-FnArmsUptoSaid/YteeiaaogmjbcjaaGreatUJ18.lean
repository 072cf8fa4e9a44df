/-
 growPat OF THE PROGRAM, by its abstract text. Conditions: none.
-/
import Derived.Test.YteeiaaogmjbcjaaGreatUJ17
import Derived.Test.YteeiaaogmjbcjaaGreatProg
import Derived.Test.YteeiaaogmjbcjaaGreatUAvDraw
import Derived.Test.YteeiaaogmjbcjaaGreatUJ14
import Derived.Test.YteeiaaogmjbcjaaGreatUJ16
import Derived.Test.YteeiaaogmjbcjaaGreatRows
import Derived.Test.YteeiaaogmjbcjaaGreatUJ05
import Derived.Test.YteeiaaogmjbcjaaGreatUJ06
import Derived.Test.YteeiaaogmjbcjaaGreatUJ09
import Derived.Test.YteeiaaogmjbcjaaGreatUJ11
set_option linter.unusedVariables false
set_option linter.unusedSimpArgs false
set_option maxRecDepth 100000
namespace Go.Proofs.YteeiaaogmjbcjaaGreat
open Go.RowKit Go.Proofs.YteeiaaogmjbcjaaGreat.Av Go.Proofs.YteeiaaogmjbcjaaGreat.Ml
open Go.Proofs.YteeiaaogmjbcjaaGreat.Av.AVal (av)

theorem SI (l : List A0) (hk : ∀ i, i < l.length → ∀ k ∈ BK l i, (i : Int) < k ∧ k < l.length) (hx : AE.bulk l ≤ 1048576) : ∀ (f i : Nat), i < l.length → l.length - i ≤ f → AJ Tryz.prog 31 [.sl (l.map av), .int .i64 i] (av (Dc (phd l) (BK l) f i)) := by
 intro f
 induction f with
 | zero => intro i hi hf; omega
 | succ f ih =>
  intro i hi hf
  have hl := BJ l
  have e := getD_map av l i .top hi
  have hs := (Eg hx i hi).1
  have hK : BK l i = l[i].kids := by rw [BK, B5 hi]
  have hH : phd l i = ⟨l[i].kind, l[i].n, l[i].s⟩ := by rw [phd, B5 hi]
  have hg : Dc (phd l) (BK l) (f + 1) i = .mk ⟨l[i].kind, l[i].n, l[i].s⟩ (l[i].kids.map fun k => Dc (phd l) (BK l) f k.toNat) := by rw [Dc, hK, hH]
  have hks := hk i hi
  rw [hK] at hks
  refine HO.F rfl (by simp; exact ⟨AD l, E0 _⟩) (AVal.clean _) ?_
  rw [hg]
  clear hg hK hH
  generalize l[i] = n at *
  simp +contextual -dsimp only [↓SD, SU, simprocAttr, HO, Aa, hi, e, Bw]
  intro w5 w
  refine Cu (X := Nat × Nat) (fun x => ⟨[(0, .sl (l.map av)), (6, .ptr 20 w 0 0), (22, .sl (n.kids.map av)), (23, .int .i64 n.kids.length), (24, .int .i64 x.1)], [(20, ⟨w, false, 125, 4, [.agg [.int .i64 n.kind, .int .i64 n.n, .str n.s, .row 37 x.2 x.1]]⟩), (37, ⟨x.2, false, 73, 1, ((n.kids.take x.1).map fun k => Dc (phd l) (BK l) f k.toNat).map av⟩)]⟩) (fun x => x.1 ≤ n.kids.length) (fun x => n.kids.length - x.1) (Ai.EB 20 0 3 37 73 1 rfl rfl Nat.zero_lt_one rfl (by decide) (fun v => Ai.le ⟨(0, v), Nat.zero_le _, rfl⟩ (by simp +contextual -dsimp only [↓SD, SU, simprocAttr]) (by simp +contextual -dsimp only [↓SD, SU, simprocAttr]))) ?_
  rintro ⟨j, u⟩ hj
  simp only at hj
  by_cases hlt : j < n.kids.length
  ·have e2 := getD_map av n.kids j .top hlt
   have hkj := hks _ (List.getElem_mem hlt)
   have ht : n.kids.take (j + 1) = n.kids.take j ++ [n.kids[j]] := List.take_succ_eq_append_getElem hlt
   obtain ⟨m, hm⟩ : ∃ m : Nat, n.kids[j] = m := ⟨n.kids[j].toNat, by omega⟩
   rw [hm] at e2 hkj ht
   have C2 := ih m (by omega) (by omega)
   have hk2 : (n.kids.take j).length = j := by simp; omega
   have ht2 : List.take j (((n.kids.take j).map fun k => Dc (phd l) (BK l) f k.toNat).map av) = ((n.kids.take j).map fun k => Dc (phd l) (BK l) f k.toNat).map av := List.take_of_length_le (by simp; omega)
   simp +contextual -dsimp only [↓SD, SU, simprocAttr, Aa, hlt, e2, Ae]
   refine Ag _ C2 ?_
   simp +contextual -dsimp only [↓SD, SU, simprocAttr, Aa, hlt, RA, Y5, VU, L7, Y6, Abz, hk2, ht2]
   refine ⟨⟨by omega, by unfold maxLen; omega⟩, fun u' => ⟨by omega, Ai.le ⟨(j + 1, u'), ⟨hlt, (by first | omega | (simp only; omega))⟩, rfl⟩ (by simp +contextual -dsimp only [↓SD, SU, simprocAttr, Int.natCast_add]) (by simp +contextual -dsimp only [↓SD, SU, simprocAttr, ht, List.map_append, Int.toNat_natCast])⟩⟩
  ·obtain rfl : j = n.kids.length := by omega
   simp +contextual -dsimp only [↓SD, SU, simprocAttr, Aa, Nat.lt_irrefl, Ab, List.take_length, Ra]
   rw [Jy, List.take_of_length_le (by simp)]

end Go.Proofs.YteeiaaogmjbcjaaGreat
set_option linter.unusedVariables false
set_option maxRecDepth 100000
set_option linter.unusedVariables false
set_option maxRecDepth 100000
set_option linter.unusedVariables false
set_option linter.unusedSimpArgs false
set_option maxRecDepth 100000
namespace Go.Proofs.YteeiaaogmjbcjaaGreat
open Go.RowKit Go.Proofs.YteeiaaogmjbcjaaGreat.Av Go.Proofs.YteeiaaogmjbcjaaGreat.Ml
open Go.Proofs.YteeiaaogmjbcjaaGreat.Av.AVal (av)

structure HtS where
 j : Nat
 a : List Px
 x : AV
 hp : Hp
end Go.Proofs.YteeiaaogmjbcjaaGreat
set_option linter.unusedVariables false
set_option maxRecDepth 100000
set_option linter.unusedVariables false
set_option linter.unusedSimpArgs false
set_option maxRecDepth 100000
namespace Go.Proofs.YteeiaaogmjbcjaaGreat
open Go.RowKit Go.Proofs.YteeiaaogmjbcjaaGreat.Av Go.Proofs.YteeiaaogmjbcjaaGreat.Ml
open Go.Proofs.YteeiaaogmjbcjaaGreat.Av.AVal (av)

def grow (G : List AV) (x : AV) (hp : Hp) : Prop := (G = [] ∧ x = .Au ∧ hp = []) ∨ ∃ v, x = .row 29 v G.length ∧ hp = [(29, ⟨v, false, 36, 4, G⟩)]
structure FlS where
 j : Nat
 v : Nat
 u : Nat
end Go.Proofs.YteeiaaogmjbcjaaGreat
set_option linter.unusedVariables false
set_option linter.unusedSimpArgs false
set_option maxRecDepth 100000
namespace Go.Proofs.YteeiaaogmjbcjaaGreat
open Go.RowKit Go.Proofs.YteeiaaogmjbcjaaGreat.Av Go.Proofs.YteeiaaogmjbcjaaGreat.Ml
open Go.Proofs.YteeiaaogmjbcjaaGreat.Av.AVal (av)

def Z3 (e : Px) : List Gq := (A2 0 e).map fun p => ⟨p.kind, p.n, p.s, p.kids⟩
theorem S9 (e : Px) : (A2 0 e).map (av : A0 → AV) = (Z3 e).map av := by
 unfold Z3
 rw [List.map_map]
 refine List.map_congr_left fun p _ => ?_
 show av p = av (⟨p.kind, p.n, p.s, p.kids⟩ : Gq)
 rw [Bw, Aae]
end Go.Proofs.YteeiaaogmjbcjaaGreat
set_option linter.unusedVariables false
namespace Go.Proofs.YteeiaaogmjbcjaaGreat
open Go.RowKit Go.Proofs.YteeiaaogmjbcjaaGreat.Av Go.Proofs.YteeiaaogmjbcjaaGreat.Ml
open Go.Proofs.YteeiaaogmjbcjaaGreat.Av.AVal (av)

theorem Pa {H : Nat → Hd} {K : Nat → List Int} {n f : Nat} (ih : ∀ a m, D4 K n f a = some m → pxN (Dc H K f a) + a = m) : ∀ (ks : List Int) (nx m : Nat), D0 (D4 K n f) ks nx = some m → Bg (ks.map fun k => Dc H K f k.toNat) + nx = m
 | [], nx, m, h => by rw [D0] at h; cases h; rw [List.map_nil, Bg]; omega
 | k :: ks, nx, m, h => by
  rw [D0] at h
  split at h
  ·rename_i hk
   cases he : D4 K n f nx with
   | none => rw [he] at h; cases h
   | some m1 =>
    rw [he] at h
    have h1 := ih nx m1 he
    have h2 := Pa ih ks m1 m h
    have hk2 : k.toNat = nx := by omega
    rw [List.map_cons, Bg, hk2]
    omega
  ·cases h
theorem Pg {H : Nat → Hd} {K : Nat → List Int} {n : Nat} : ∀ (f a m : Nat), D4 K n f a = some m → pxN (Dc H K f a) + a = m
 | 0, a, m, h => by rw [D4] at h; cases h
 | f + 1, a, m, h => by
  rw [D4] at h
  split at h
  ·have := Pa (H := H) (fun a m => Pg f a m) (K a) (a + 1) m h
   rw [Dc, pxN]
   omega
  ·cases h
theorem XE {H : Nat → Hd} {K : Nat → List Int} {n : Nat} (h : Gb K n = true) (hk : ∀ i, i < n → ∀ k ∈ K i, (i : Int) < k ∧ k < n) (hn : 0 < n) : pxN (Dc H K n 0) = n := by
 have h1 := of_decide_eq_true h
 have h2 := Pg (H := H) (n + 1) 0 n h1
 have h3 := K1 (H := H) hk n (n + 1) 0 hn (by omega) (by omega)
 rw [h3]; omega
end Go.Proofs.YteeiaaogmjbcjaaGreat
set_option linter.unusedVariables false
set_option linter.unusedVariables false
set_option linter.unusedSimpArgs false
set_option maxRecDepth 100000
set_option linter.unusedVariables false
set_option linter.unusedVariables false
set_option maxRecDepth 100000
set_option linter.unusedVariables false
set_option linter.unusedSimpArgs false
set_option maxRecDepth 100000
set_option linter.unusedVariables false
set_option maxRecDepth 100000
namespace Go.Proofs.YteeiaaogmjbcjaaGreat
open Go.Proofs.YteeiaaogmjbcjaaGreat.Av

theorem Kx : Tryz.prog.follows .mixedOrders = true := by kernel_rfl

def Cd : Ir Tryz.prog 45 [] [] 2 := ⟨_, _, Tryz.func45, Kx, by kernel_rfl, Az [] Tryz.progTables (by conv => lhs; cbv) (by kernel_rfl)⟩
def B2 : Ir Tryz.prog 39 [] [] 2 := ⟨_, _, Tryz.func39, Kx, by kernel_rfl, Az [] Tryz.progTables (by conv => lhs; cbv) (by kernel_rfl)⟩
end Go.Proofs.YteeiaaogmjbcjaaGreat
set_option linter.unusedVariables false
set_option linter.unusedSimpArgs false
set_option maxRecDepth 100000
namespace Go.Proofs.YteeiaaogmjbcjaaGreat
open Go.RowKit Go.Proofs.YteeiaaogmjbcjaaGreat.Av Go.Proofs.YteeiaaogmjbcjaaGreat.Ml
open Go.Proofs.YteeiaaogmjbcjaaGreat.Av.AVal (av)

theorem Lb (l : List Pat) (g : FuncId) (caps : List AV) (p : Pat → Bool) (hl : l.length ≤ 1099511627776) (hp : ∀ x ∈ caps, Ap x) (hc : ∀ hp, caps.map (AV.Bs hp) = caps) (hg : ∀ x ∈ l, AJ Tryz.prog g (av x :: caps) (.bool (p x))) :
  AJ Tryz.prog 45 [.sl (l.map av), .fn g caps] (.int .i64 (indexOf l p)) := by
 refine Cd.F rfl (by simp; exact ⟨AD l, Ap.fn hp⟩) (Ap.int _ _) ?_
 simp +contextual -dsimp only [↓SD, SU, simprocAttr, Cd, Aa]
 refine AG (X := Nat) (fun k => ⟨[(0, .sl (l.map av)), (1, .fn g caps), (7, .int .i64 l.length), (8, .int .i64 k)], []⟩) (fun k => k ≤ l.length ∧ (l.take k).all (fun x => !p x) = true) (fun k => l.length - k) 0 ⟨Nat.zero_le _, rfl⟩ (by simp +contextual -dsimp only [↓SD, SU, simprocAttr]) trivial ?_
 intro k ⟨hk, hpk⟩
 by_cases hlt : k < l.length
 ·have e := getD_map av l k .top hlt
  have C := hg l[k] (List.getElem_mem hlt)
  rw [IU] at C
  simp +contextual -dsimp only [↓SD, SU, simprocAttr, Aa, e, IU, hlt, hc]
  refine Ag _ C ?_
  simp +contextual -dsimp only [↓SD, SU, simprocAttr]
  refine ⟨fun h1 => by rw [JI hlt hpk h1], fun h1 => ⟨by omega, ?_⟩⟩
  exact Ai.le ⟨k + 1, ⟨⟨hlt, by rw [Jb _ hlt hpk, h1]; rfl⟩, (by first | omega | (simp only; omega))⟩, rfl⟩ (by simp +contextual -dsimp only [↓SD, SU, simprocAttr, Int.natCast_add]) trivial
 ·obtain rfl : k = l.length := by omega
  rw [List.take_length] at hpk
  simp +contextual -dsimp only [↓SD, SU, simprocAttr, Aa, Nat.lt_irrefl, Hf hpk]
theorem Jf (l : List Pat) (g : FuncId) (caps : List AV) (p : Pat → Bool) (hl : l.length ≤ 1099511627776) (hp : ∀ x ∈ caps, Ap x) (hc : ∀ hp, caps.map (AV.Bs hp) = caps) (hg : ∀ x ∈ l, AJ Tryz.prog g (av x :: caps) (.bool (p x))) :
  AJ Tryz.prog 39 [.sl (l.map av), .fn g caps] (.bool (l.any p)) := by
 refine B2.F rfl (by simp; exact ⟨AD l, Ap.fn hp⟩) (Ap.bool _) ?_
 simp +contextual -dsimp only [↓SD, SU, simprocAttr, B2, hc]
 refine Ag _ (Lb l g caps p hl hp hc hg) ?_
 simp +contextual -dsimp only [↓SD, SU, simprocAttr, II]

end Go.Proofs.YteeiaaogmjbcjaaGreat
set_option linter.unusedVariables false
set_option linter.unusedSimpArgs false
set_option maxRecDepth 100000
set_option linter.unusedVariables false
set_option maxRecDepth 100000
set_option linter.unusedVariables false
set_option linter.unusedSimpArgs false
set_option maxRecDepth 100000
namespace Go.Proofs.YteeiaaogmjbcjaaGreat
open Go.RowKit Go.Proofs.YteeiaaogmjbcjaaGreat.Av Go.Proofs.YteeiaaogmjbcjaaGreat.Ml
open Go.Proofs.YteeiaaogmjbcjaaGreat.Av.AVal (av)

def Acy : Px → List Int → Option Px
 | t, [] => some t
 | t, p :: r => match t.kids[p.toNat]? with
  | some k => Acy k r
  | none => none
def Acp (a : Ask) (t : Px) : Bool := decide (t.hd.kind = a.kind) && decide (t.hd.n = a.n) && decide (t.hd.s = a.s) && (!decide (a.kind = 4) || (a.has == decide (0 < t.kids.length)))
def Acq (a : Ask) (d : Px) : Bool :=
 match Acy d a.path with
 | some t => Acp a t
 | none => false
end Go.Proofs.YteeiaaogmjbcjaaGreat
