/-
 AsksDeep OF THE PROGRAM AND OF THE REFERENCE, by abstract texts. Conditions: none.
-/
import Derived.Test.YteeiaaogmjbcjaaGreatUJ11
import Derived.Test.YteeiaaogmjbcjaaGreatProg
import Derived.Test.YteeiaaogmjbcjaaGreatUAvDraw
import Derived.Test.YteeiaaogmjbcjaaGreatRows
import Derived.Test.YteeiaaogmjbcjaaGreatUJ05
import Derived.Test.YteeiaaogmjbcjaaGreatUJ06
import Derived.Test.YteeiaaogmjbcjaaGreatUJ09
import Derived.Test.YteeiaaogmjbcjaaGreatUAvSimp
set_option linter.unusedVariables false
set_option linter.unusedSimpArgs false
set_option maxRecDepth 100000
namespace Go.Proofs.YteeiaaogmjbcjaaGreat
open Go.RowKit Go.Proofs.YteeiaaogmjbcjaaGreat.Av Go.Proofs.YteeiaaogmjbcjaaGreat.Ml
open Go.Proofs.YteeiaaogmjbcjaaGreat.Av.AVal (av)

def dps (l : List Ask) : Nat → List Int
 | 0 => List.replicate l.length 0
 | m + 1 =>
  let d := dps l m
  let a := l.getD (l.length - 1 - m) default
  if a.kind = 0 then d else d.set (l.length - 1 - m) (1 + max (d.getD a.yes.toNat 0) (d.getD a.no.toNat 0))
theorem QL (l : List Ask) : ∀ m, (dps l m).length = l.length
 | 0 => by simp [dps]
 | m + 1 => by
  have := QL l m
  simp only [dps]
  split <;> simp [this]
theorem QM (l : List Ask) : ∀ m j, 0 ≤ (dps l m).getD j 0 ∧ (dps l m).getD j 0 ≤ m
 | 0, j => by
  simp only [dps, List.getD_eq_getElem?_getD, List.getElem?_replicate]
  split <;> simp
 | m + 1, j => by
  have ih := QM l m
  simp only [dps]
  split
  ·have := ih j; omega
  ·simp only [List.getD_eq_getElem?_getD, List.getElem?_set] at ih ⊢
   have h1 := ih (l.getD (l.length - 1 - m) default).yes.toNat
   have h2 := ih (l.getD (l.length - 1 - m) default).no.toNat
   have h3 := ih j
   simp only [List.getD_eq_getElem?_getD] at h1 h2
   split
   ·split
    ·simp only [Option.getD_some]; omega
    ·simp; omega
   ·omega
def Nz (l : List Ask) : Int := if E4 l = true then (dps l l.length).getD 0 0 else -1
theorem Xm {a : Ask} {i n : Int} (h : Hk a i n = true) (hk : ¬ a.kind = 0) : (i + 1 ≤ a.yes ∧ a.yes ≤ n - 1) ∧ (i + 1 ≤ a.no ∧ a.no ≤ n - 1) := by
 unfold Hk at h
 rw [if_neg hk] at h
 simp only [Bool.and_eq_true, decide_eq_true_eq] at h
 exact ⟨h.1.2, h.2⟩

theorem LZ (l : List Ask) (hx : AE.bulk l ≤ 1048576) : AJ Tryz.prog 19 [.agg [.sl (l.map av)]] (.int .i64 (Nz l)) := by
 have hl := BJ l
 refine GW.F rfl (by simp; exact Ap.agg (by simp; exact AD l)) (Ap.int _ _) ?_
 simp +contextual -dsimp (maxSteps := 2000000) only [↓SD, SU, simprocAttr, GW, Aa]
 have C := Jv l hx
 cases hb : E4 l
 case false =>
  rw [hb] at C
  refine Ag _ C ?_
  simp +contextual -dsimp (maxSteps := 2000000) only [↓SD, SU, simprocAttr]
  simp [Nz, hb]
 rw [hb] at C
 refine Ag _ C ?_
 obtain ⟨hall, hn1, hn2⟩ := KF hb
 simp +contextual -dsimp (maxSteps := 2000000) only [↓SD, SU, simprocAttr, Aa]
 refine ⟨by omega, fun v => ⟨by omega, ?_⟩⟩
 refine AG (X := Nat) (fun m => ⟨[(1, .obj [.sl (l.map av)]), (3, .row 12 v l.length), (4, .int .i64 ((l.length : Int) - 1 - m))], [(12, ⟨v, false, 3, 1, (dps l m).map av⟩)]⟩) (fun m => m ≤ l.length) (fun m => l.length - m) 0 (Nat.zero_le _) (by simp +contextual -dsimp only [↓SD, SU, simprocAttr, Int.sub_zero]) (by simp +contextual -dsimp only [↓SD, SU, simprocAttr, dps, List.map_replicate, Ae]) ?_
 intro m hm
 have hlen := QL l m
 by_cases hlt : m < l.length
 ·have h0 : (0 : Int) ≤ (l.length : Int) - 1 - m := by omega
  have hi : l.length - 1 - m < l.length := by omega
  have ei : ((l.length : Int) - 1 - m).toNat = l.length - 1 - m := by omega
  have ei2 : (l.length : Int) - 1 - m < l.length := by omega
  have e := getD_map av l (l.length - 1 - m) .top hi
  have es : (l.length : Int) - 1 - m - 1 = l.length - 1 - ((m + 1 : Nat) : Int) := by omega
  have he : l.getD (l.length - 1 - m) default = l[l.length - 1 - m] := B5 hi _
  have hA := hall _ hi
  generalize l[l.length - 1 - m] = A at *
  simp +contextual -dsimp (maxSteps := 2000000) only [↓SD, SU, simprocAttr, Aa, h0, ei, ei2, e, JP]
  intro u
  refine ⟨fun hk => ?_, fun hk => ⟨by omega, Aaj (m + 1) hlt (by first | omega | (simp only; omega)) (by simp +contextual -dsimp only [↓SD, SU, simprocAttr, es]) (by simp +contextual -dsimp only [↓SD, SU, simprocAttr, dps]; simp only [he, hk, if_true])⟩⟩
  obtain ⟨⟨y1, y2⟩, n1, n2⟩ := Xm hA hk
  have d1 := QM l m A.yes.toNat
  have d2 := QM l m A.no.toNat
  have g1 : A.yes.toNat < (dps l m).length := by omega
  have g2 : A.no.toNat < (dps l m).length := by omega
  have f1 := Ja (dps l m) 0 g1
  have f2 := Ja (dps l m) 0 g2
  have g3 : l.length - 1 - m < (dps l m).length := by omega
  have f3 := Ja (dps l m) 0 g3
  simp +contextual -dsimp (maxSteps := 2000000) only [↓SD, SU, simprocAttr, Aa, g1, g2, g3, f1, f2, f3, Ae, hlen, ei, h0, ei2, hi]
  have hset : ((dps l m).map av).set (l.length - 1 - m) (AV.int .i64 (1 + max ((dps l m).getD A.yes.toNat 0) ((dps l m).getD A.no.toNat 0))) = (dps l (m + 1)).map av := by
   simp only [dps, he, hk, if_false, List.map_set, Ae]
  (repeat' (first | intro _ | refine And.intro ?_ ?_))
  all_goals first | omega | exact Aaj (m + 1) hlt (by first | omega | (simp only; omega)) (by simp +contextual -dsimp only [↓SD, SU, simprocAttr, es]) (by simp +contextual -dsimp only [↓SD, SU, simprocAttr, hset])
 ·obtain rfl : m = l.length := by omega
  have g0 : (0 : Nat) < (dps l l.length).length := by omega
  have f0 := Ja (dps l l.length) 0 g0
  have h0 : ¬ (0 : Int) ≤ (l.length : Int) - 1 - l.length := by omega
  simp +contextual -dsimp (maxSteps := 2000000) only [↓SD, SU, simprocAttr, Aa, h0, hlen, f0, Ae, Nz, hb]
  (repeat' (first | intro _ | refine And.intro ?_ ?_))
  all_goals first | omega | (simp; done)

end Go.Proofs.YteeiaaogmjbcjaaGreat
set_option linter.unusedVariables false
set_option maxRecDepth 100000
set_option linter.unusedVariables false
set_option maxRecDepth 100000
namespace Go.Proofs.YteeiaaogmjbcjaaGreat
open Go.Proofs.YteeiaaogmjbcjaaGreat.Av

theorem Ei : Tryz.prog.follows .mixedOrders = true := by kernel_rfl

def Js : Ir Tryz.prog 28 [] [] 1 := ⟨_, _, Tryz.func28, Ei, by kernel_rfl, Az [] Tryz.progTables (by conv => lhs; cbv) (by kernel_rfl)⟩
def HQ : Ir Tryz.prog 58 [] [] 2 := ⟨_, _, Tryz.func58, Ei, by kernel_rfl, Az [] Tryz.progTables (by conv => lhs; cbv) (by kernel_rfl)⟩
def Et : Ir Tryz.prog 59 [] [] 2 := ⟨_, _, Tryz.func59, Ei, by kernel_rfl, Az [] Tryz.progTables (by conv => lhs; cbv) (by kernel_rfl)⟩
def Jo : Ir Tryz.prog 9 [] [] 1 := ⟨_, _, Tryz.func9, Ei, by kernel_rfl, Az [] Tryz.progTables (by conv => lhs; cbv) (by kernel_rfl)⟩
def Co : Ir Tryz.prog 36 [] [] 2 := ⟨_, _, Tryz.func36, Ei, by kernel_rfl, Az [] Tryz.progTables (by conv => lhs; cbv) (by kernel_rfl)⟩
def E9 : Ir Tryz.prog 37 [] [] 2 := ⟨_, _, Tryz.func37, Ei, by kernel_rfl, Az [] Tryz.progTables (by conv => lhs; cbv) (by kernel_rfl)⟩
end Go.Proofs.YteeiaaogmjbcjaaGreat
set_option linter.unusedVariables false
namespace Go.Proofs.YteeiaaogmjbcjaaGreat
open Go.RowKit Go.Proofs.YteeiaaogmjbcjaaGreat.Ml

structure A0 where
 kind : Int
 n : Int
 s : ByteArray
 kids : List Int
 deriving DecidableEq, Inhabited

def A0.rep (S : Nat → Prop) (w : World) (cs : List Value) (x : A0) : Prop := ∃ v3, cs = [Value.int .i64 x.kind, Value.int .i64 x.n, Value.string x.s, v3] ∧ (-9223372036854775808 ≤ x.kind ∧ x.kind ≤ 9223372036854775807) ∧ (-9223372036854775808 ≤ x.n ∧ x.n ≤ 9223372036854775807) ∧ x.s.size ≤ maxLen ∧ DI S w v3 x.kids
instance : Rep A0 where
 n := 4
 rep := A0.rep
 len := by rintro _ _ _ _ ⟨v3, rfl, _⟩; rfl
 carry := by rintro _ _ _ _ _ _ ⟨v3, rfl, h0, h1, h2, h3⟩ hS hw; exact ⟨v3, rfl, h0, h1, h2, h3.carry hS hw⟩
instance : AE A0 := ⟨fun x => AE.bulk x.kind + AE.bulk x.n + AE.bulk x.s + AE.bulk x.kids + 1, fun _ => by omega⟩

structure Pat where
 nodes : List A0
 deriving DecidableEq, Inhabited

def Pat.rep (S : Nat → Prop) (w : World) (cs : List Value) (x : Pat) : Prop := ∃ v0, cs = [v0] ∧ DI S w v0 x.nodes
instance : Rep Pat where
 n := 1
 rep := Pat.rep
 len := by rintro _ _ _ _ ⟨v0, rfl, _⟩; rfl
 carry := by rintro _ _ _ _ _ _ ⟨v0, rfl, h0⟩ hS hw; exact ⟨v0, rfl, h0.carry hS hw⟩
instance : AE Pat := ⟨fun x => AE.bulk x.nodes + 1, fun _ => by omega⟩

end Go.Proofs.YteeiaaogmjbcjaaGreat
set_option linter.unusedVariables false
set_option maxRecDepth 100000
set_option linter.unusedVariables false
set_option linter.unusedSimpArgs false
set_option maxRecDepth 100000
namespace Go.Proofs.YteeiaaogmjbcjaaGreat
open Go.RowKit Go.Proofs.YteeiaaogmjbcjaaGreat.Av Go.Proofs.YteeiaaogmjbcjaaGreat.Ml
open Go.Proofs.YteeiaaogmjbcjaaGreat.Av.AVal (av)

instance : AVal A0 := ⟨fun x => .agg [.int .i64 x.kind, .int .i64 x.n, .str x.s, .sl (x.kids.map av)], 4, fun _ => rfl, fun _ => rfl, fun x y hy => by
 simp only [AV.cells, List.mem_cons, List.not_mem_nil, or_false] at hy
 rcases hy with rfl | rfl | rfl | rfl <;> first | exact Ap.int _ _ | exact Ap.str _ | exact Ap.bool _ | exact AD x.kids, fun _ _ => rfl, fun x y hy => by
 simp only [AV.cells, List.mem_cons, List.not_mem_nil, or_false] at hy
 rcases hy with rfl | rfl | rfl | rfl <;> rfl⟩
theorem Bw (x : A0) : av x = .agg [.int .i64 x.kind, .int .i64 x.n, .str x.s, .sl (x.kids.map av)] := eqq rfl
instance : DR A0 := ⟨fun {S w cs y} h => by
 obtain ⟨v3, rfl, h0, h1, h2, r3⟩ := h
 exact VRs.cons (.int _ _ h0.1 h0.2) (VRs.cons (.int _ _ h1.1 h1.2) (VRs.cons (.str _ h2) (VRs.cons (Cp r3) (VRs.nil))))⟩

instance : AVal Pat := ⟨fun x => .agg [.sl (x.nodes.map av)], 1, fun _ => rfl, fun _ => rfl, fun x y hy => by
 simp only [AV.cells, List.mem_cons, List.not_mem_nil, or_false] at hy
 subst hy; first | exact Ap.int _ _ | exact Ap.str _ | exact Ap.bool _ | exact AD x.nodes, fun _ _ => rfl, fun x y hy => by
 simp only [AV.cells, List.mem_cons, List.not_mem_nil, or_false] at hy
 subst hy; rfl⟩
theorem IU (x : Pat) : av x = .agg [.sl (x.nodes.map av)] := eqq rfl
instance : DR Pat := ⟨fun {S w cs y} h => by
 obtain ⟨v0, rfl, r0⟩ := h
 exact VRs.cons (Cp r0) (VRs.nil)⟩

end Go.Proofs.YteeiaaogmjbcjaaGreat
namespace Go.Proofs.YteeiaaogmjbcjaaGreat

def D0 (e : Nat → Option Nat) : List Int → Nat → Option Nat
 | [], nx => some nx
 | k :: ks, nx => if k = nx then (match e nx with | some m => D0 e ks m | none => none) else none
def D4 (K : Nat → List Int) (n : Nat) : Nat → Nat → Option Nat
 | 0, _ => none
 | f + 1, i => if i < n then D0 (D4 K n f) (K i) (i + 1) else none
def GD (K : Nat → List Int) (n f : Nat) (i : Int) (nx : Nat) : Option Nat := if i = nx then D4 K n f nx else none

theorem Qw {e : Nat → Option Nat} {n : Nat} (he : ∀ a m, e a = some m → a < m ∧ m ≤ n) : ∀ {ks : List Int} {a m : Nat}, D0 e ks a = some m → a ≤ n → a ≤ m ∧ m ≤ n
 | [], a, m, h, ha => by cases h; exact ⟨Nat.le_refl _, ha⟩
 | k :: ks, a, m, h, ha => by
  unfold D0 at h
  split at h
  ·split at h
   ·rename_i m' hm'
    have h1 := he _ _ hm'
    have h2 := Qw he h h1.2
    omega
   ·cases h
  ·cases h
theorem Nw (K : Nat → List Int) (n : Nat) : ∀ (f a m : Nat), D4 K n f a = some m → a < m ∧ m ≤ n
 | 0, a, m, h => by cases h
 | f + 1, a, m, h => by
  unfold D4 at h
  split at h
  ·have := Qw (Nw K n f) h (by omega)
   omega
  ·cases h
theorem Wy {K : Nat → List Int} {n : Nat} {e : Nat → Option Nat} (hle : ∀ a m, e a = some m → a < m ∧ m ≤ n) (he : ∀ a m, e a = some m → ∀ i, a ≤ i → i < m → ∀ k ∈ K i, (i : Int) < k ∧ k < n) :
  ∀ {ks : List Int} {a m : Nat}, a ≤ n → D0 e ks a = some m → (∀ k ∈ ks, (a : Int) ≤ k ∧ k < m) ∧ ∀ i, a ≤ i → i < m → ∀ k ∈ K i, (i : Int) < k ∧ k < n
 | [], a, m, _, h => by cases h; exact ⟨fun k hk => (by cases hk), fun i h1 h2 => by omega⟩
 | k :: ks, a, m, ha, h => by
  unfold D0 at h
  split at h
  ·rename_i hk
   split at h
   ·rename_i m' hm'
    have h1 := hle _ _ hm'
    have h2 := Wy hle he h1.2 h
    have h3 := Qw hle h h1.2
    refine ⟨fun x hx => ?_, fun i h4 h5 => ?_⟩
    ·rcases List.mem_cons.1 hx with rfl | hx
     ·omega
     ·have := h2.1 x hx; omega
    ·rcases Nat.lt_or_ge i m' with h6 | h6
     ·exact he _ _ hm' i h4 h6
     ·exact h2.2 i h6 h5
   ·cases h
  ·cases h
theorem Z1 (K : Nat → List Int) (n : Nat) : ∀ (f a m : Nat), D4 K n f a = some m → ∀ i, a ≤ i → i < m → ∀ k ∈ K i, (i : Int) < k ∧ k < n
 | 0, a, m, h => by cases h
 | f + 1, a, m, h => by
  have hm := Nw K n (f + 1) a m h
  unfold D4 at h
  split at h
  ·rename_i hl
   have h1 := Wy (Nw K n f) (Z1 K n f) (by omega) h
   intro i hi him k hk
   rcases Nat.lt_or_ge a i with h2 | h2
   ·exact h1.2 i (by omega) him k hk
   ·obtain rfl : i = a := by omega
    have := h1.1 k hk
    omega
  ·cases h
def Gb (K : Nat → List Int) (n : Nat) : Bool := decide (D4 K n (n + 1) 0 = some n)
theorem IZ {K : Nat → List Int} {n : Nat} (h : Gb K n = true) {i : Nat} (hi : i < n) {k : Int} (hk : k ∈ K i) : (i : Int) < k ∧ k < n :=
 Z1 K n _ 0 n (of_decide_eq_true h) i (Nat.zero_le _) hi k hk
end Go.Proofs.YteeiaaogmjbcjaaGreat
