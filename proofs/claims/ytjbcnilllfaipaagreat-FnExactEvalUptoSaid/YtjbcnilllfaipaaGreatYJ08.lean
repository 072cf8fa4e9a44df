/-
 Bp, Pat BY ABSTRACT TEXTS: as abstract values, copies, comparisons, Lx. Conditions: none. Printed by genav.py.
-/
import Derived.Test.YtjbcnilllfaipaaGreatYJ07
import Derived.Test.YtjbcnilllfaipaaGreatYAvSimp
import Derived.Test.YtjbcnilllfaipaaGreatProg
import Derived.Test.YtjbcnilllfaipaaGreatYAvDraw
import Derived.Test.YtjbcnilllfaipaaGreatYJ06
set_option linter.unusedVariables false
set_option linter.unusedSimpArgs false
set_option maxRecDepth 100000
namespace Go.Proofs.YtjbcnilllfaipaaGreat
open Go.RowKit Go.Proofs.YtjbcnilllfaipaaGreat.Av Go.Proofs.YtjbcnilllfaipaaGreat.Ml
open Go.Proofs.YtjbcnilllfaipaaGreat.Av.AVal (av)

instance : AVal Bp := ⟨fun x => .agg [.int .i64 x.kind, .int .i64 x.n, .str x.s, .sl (x.kids.map av)], 4, fun _ => rfl, fun _ => rfl, fun x y hy => by
 simp only [AV.cells, List.mem_cons, List.not_mem_nil, or_false] at hy
 rcases hy with rfl | rfl | rfl | rfl <;> first | exact Ac.int _ _ | exact Ac.str _ | exact Ac.bool _ | exact Aq x.kids, fun _ _ => rfl, fun x y hy => by
 simp only [AV.cells, List.mem_cons, List.not_mem_nil, or_false] at hy
 rcases hy with rfl | rfl | rfl | rfl <;> rfl⟩
theorem A8 (x : Bp) : av x = .agg [.int .i64 x.kind, .int .i64 x.n, .str x.s, .sl (x.kids.map av)] := eqq rfl
instance : FF Bp := ⟨fun {S w cs y} h => by
 obtain ⟨v3, rfl, h0, h1, h2, r3⟩ := h
 exact VRs.cons (.int _ _ h0.1 h0.2) (VRs.cons (.int _ _ h1.1 h1.2) (VRs.cons (.str _ h2) (VRs.cons (Ej r3) (VRs.nil))))⟩

instance : AVal Pat := ⟨fun x => .agg [.sl (x.nodes.map av)], 1, fun _ => rfl, fun _ => rfl, fun x y hy => by
 simp only [AV.cells, List.mem_cons, List.not_mem_nil, or_false] at hy
 subst hy; first | exact Ac.int _ _ | exact Ac.str _ | exact Ac.bool _ | exact Aq x.nodes, fun _ _ => rfl, fun x y hy => by
 simp only [AV.cells, List.mem_cons, List.not_mem_nil, or_false] at hy
 subst hy; rfl⟩
theorem C9 (x : Pat) : av x = .agg [.sl (x.nodes.map av)] := eqq rfl
instance : FF Pat := ⟨fun {S w cs y} h => by
 obtain ⟨v0, rfl, r0⟩ := h
 exact VRs.cons (Ej r0) (VRs.nil)⟩

theorem V8 (x : Bp) (n : Int) (hx : Ad.bulk x ≤ 1099511627776) (h1 : -1 ≤ n) (h2 : n ≤ 1099511627776) : Lk 157 [av x, .int .i64 n] := by
 have hb : Ad.bulk x.kind + Ad.bulk x.n + Ad.bulk x.s + Ad.bulk x.kids + 1 ≤ 1099511627776 := hx
 have e2 : Ad.bulk x.s = x.s.size + 1 := rfl
 refine Fj.H rfl ?_
 simp +contextual -dsimp only [↓SD, SU, simprocAttr, Fj, A8]
 (repeat' (first | intro _ | refine And.intro ?_ ?_))
 all_goals first | omega | (refine Af.post [] ?_; simp +contextual -dsimp only [↓SD, SU, simprocAttr, Fj]; exact ⟨_, rfl, rfl, by omega, by omega⟩) | (refine Ae [] (MG x.kids _ (by omega)  (by omega) (by omega)) (by simp +contextual -dsimp only [↓SD, SU, simprocAttr]) ?_; rintro r hp' ⟨m, rfl, rfl, hm1, hm2⟩; simp +contextual -dsimp only [↓SD, SU, simprocAttr]; (repeat' (first | intro _ | refine And.intro ?_ ?_)))
 all_goals first | omega | (refine Af.post [] ?_; simp +contextual -dsimp only [↓SD, SU, simprocAttr, Fj]; exact ⟨_, rfl, rfl, by omega, by omega⟩)

theorem V3 (x : Bp) (hx : Ad.bulk x ≤ 1099511627776) : Ap Tryz.prog 159 [av x] (av x) := by
 have hb : Ad.bulk x.kind + Ad.bulk x.n + Ad.bulk x.s + Ad.bulk x.kids + 1 ≤ 1099511627776 := hx
 refine Jr.F rfl (by simp; exact AVal.clean x) (AVal.clean x) ?_
 simp +contextual -dsimp only [↓SD, SU, simprocAttr, Jr, A8]
 (repeat' (first | intro _ | refine And.intro ?_ ?_))
 refine Ab _ (MF x.kids (by omega)) ?_
 simp +contextual -dsimp only [↓SD, SU, simprocAttr]

theorem WL (x : Bp) (hx : Ad.bulk x ≤ 1099511627776) : Ap Tryz.prog 163 [av x, av x] (.bool true) := by
 have hb : Ad.bulk x.kind + Ad.bulk x.n + Ad.bulk x.s + Ad.bulk x.kids + 1 ≤ 1099511627776 := hx
 refine Jv.F rfl (by simp; exact AVal.clean x) (Ac.bool _) ?_
 simp +contextual -dsimp only [↓SD, SU, simprocAttr, Jv, A8, beq_self_eq_true]
 refine Ab _ (MU x.kids (by omega)) ?_
 simp +contextual -dsimp only [↓SD, SU, simprocAttr, beq_self_eq_true]

theorem S9 (l : List Bp) (n : Int) (hx : Ad.bulk l ≤ 1099511627776) (h1 : -1 ≤ n) (h2 : n ≤ 1099511627776) : Lk 139 [.sl (l.map av), .int .i64 n] := by
 have hl := Ao l
 refine D4.H rfl ?_
 simp +contextual -dsimp only [↓SD, SU, simprocAttr, D4, Aa]
 refine ⟨by omega, fun h => ?_, fun h => ?_⟩
 ·refine Af.post [] ?_; simp +contextual -dsimp only [↓SD, SU, simprocAttr, D4]; exact ⟨_, rfl, rfl, by omega, by omega⟩
 refine Al (X := Nat × Int) (fun x => ⟨[(0, .sl (l.map av)), (1, .int .i64 x.2), (5, .int .i64 x.1)], []⟩) (fun x => x.1 ≤ l.length ∧ 0 ≤ x.2 ∧ x.2 ≤ 1099511627776) (fun x => l.length - x.1) (0, n - l.length) ⟨Nat.zero_le _, by simp only; omega, by simp only; omega⟩ (by simp +contextual -dsimp only [↓SD, SU, simprocAttr]) trivial ?_
 rintro ⟨k, m⟩ ⟨hk, hm0, hm1⟩
 simp only at hk hm0 hm1
 by_cases hlt : k < l.length
 ·have e := getD_map av l k .top hlt
  have hbk : Ad.bulk l[k] ≤ 1099511627776 := by have := AW (List.getElem_mem hlt); omega
  simp +contextual -dsimp only [↓SD, SU, simprocAttr, Aa, hlt, e, A8]
  refine Ae [] (V8 l[k] m hbk (by omega) hm1) (by simp +contextual -dsimp only [↓SD, SU, simprocAttr]) ?_
  rintro r hp' ⟨q, rfl, rfl, hq1, hq2⟩
  simp +contextual -dsimp only [↓SD, SU, simprocAttr]
  (repeat' (first | intro _ | refine And.intro ?_ ?_))
  all_goals first | omega | (refine Af.post [] ?_; simp +contextual -dsimp only [↓SD, SU, simprocAttr, D4]; exact ⟨_, rfl, rfl, by omega, by omega⟩) | exact Af.le ⟨(k + 1, q), ⟨⟨hlt, by simp only; omega, hq2⟩, (by first | omega | (simp only; omega))⟩, rfl⟩ (by simp +contextual -dsimp only [↓SD, SU, simprocAttr, Int.natCast_add]) trivial
 ·obtain rfl : k = l.length := by omega
  simp +contextual -dsimp only [↓SD, SU, simprocAttr, Aa, Nat.lt_irrefl]
  refine Af.post [] ?_
  simp +contextual -dsimp only [↓SD, SU, simprocAttr, D4]
  exact ⟨_, rfl, rfl, by omega, by omega⟩

theorem S6 (l : List Bp) (hx : Ad.bulk l ≤ 1099511627776) : Ap Tryz.prog 142 [.sl (l.map av)] (.sl (l.map av)) := by
 have hl := Ao l
 refine Iw.F rfl (by simp; exact Aq l) (Aq l) ?_
 simp +contextual -dsimp only [↓SD, SU, simprocAttr, Iw, Aa]
 refine ⟨by omega, fun v => ?_⟩
 refine Al (X := Nat) (fun k => ⟨[(0, .sl (l.map av)), (3, .row 7 v l.length), (4, .int .i64 k)], [(7, ⟨v, false, 162, 4, FD l (AV.agg [.int .i64 0, .int .i64 0, .str (bs []), .Ar]) k⟩)]⟩) (fun k => k ≤ l.length) (fun k => l.length - k) 0 (Nat.zero_le _) (by simp +contextual -dsimp only [↓SD, SU, simprocAttr]) (by simp +contextual -dsimp only [↓SD, SU, simprocAttr, Eg]) ?_
 intro k hk
 by_cases hlt : k < l.length
 ·have e := getD_map av l k .top hlt
  have e1 := Cv (AV.agg [.int .i64 0, .int .i64 0, .str (bs []), .Ar]) hk
  have e2 := EO (AV.agg [.int .i64 0, .int .i64 0, .str (bs []), .Ar]) hlt .top
  have e3 := EN (z := (AV.agg [.int .i64 0, .int .i64 0, .str (bs []), .Ar])) hlt rfl
  have hbk : Ad.bulk l[k] ≤ 1099511627776 := by have := AW (List.getElem_mem hlt); omega
  rw [A8] at e3
  simp +contextual -dsimp only [↓SD, SU, simprocAttr, Aa, hlt, e, A8]
  have C := V3 l[k] hbk
  rw [A8] at C
  refine Ab _ C ?_
  simp +contextual -dsimp only [↓SD, SU, simprocAttr, Aa, hlt, e, A8, e1, e2, e3]
  refine ⟨by omega, Af.le ⟨k + 1, ⟨hlt, (by first | omega | (simp only; omega))⟩, rfl⟩ (by simp +contextual -dsimp only [↓SD, SU, simprocAttr, Int.natCast_add]) (by simp +contextual -dsimp only [↓SD, SU, simprocAttr, e2, e3])⟩
 ·obtain rfl : k = l.length := by omega
  have e1 := Cv (AV.agg [.int .i64 0, .int .i64 0, .str (bs []), .Ar]) hk
  simp +contextual -dsimp only [↓SD, SU, simprocAttr, Aa, Nat.lt_irrefl, Eh, AA, List.take_length]
  try simp [List.take_of_length_le]

theorem UX (l : List Bp) (hx : Ad.bulk l ≤ 1099511627776) : Ap Tryz.prog 155 [.sl (l.map av), .sl (l.map av)] (.bool true) := by
 have hl := Ao l
 refine IF.F rfl (by simp; exact Aq l) (Ac.bool _) ?_
 simp +contextual -dsimp only [↓SD, SU, simprocAttr, IF, Aa]
 refine Al (X := Nat) (fun k => ⟨[(0, .sl (l.map av)), (1, .sl (l.map av)), (5, .int .i64 k)], []⟩) (fun k => k ≤ l.length) (fun k => l.length - k) 0 (Nat.zero_le _) (by simp +contextual -dsimp only [↓SD, SU, simprocAttr]) trivial ?_
 intro k hk
 by_cases hlt : k < l.length
 ·have e := getD_map av l k .top hlt
  have hbk : Ad.bulk l[k] ≤ 1099511627776 := by have := AW (List.getElem_mem hlt); omega
  simp +contextual -dsimp only [↓SD, SU, simprocAttr, Aa, hlt, e, A8]
  have C := WL l[k] hbk
  rw [A8] at C
  refine Ab _ C ?_
  simp +contextual -dsimp only [↓SD, SU, simprocAttr, Aa, hlt, e, A8]
  exact ⟨by omega, Af.le ⟨k + 1, ⟨hlt, (by first | omega | (simp only; omega))⟩, rfl⟩ (by simp +contextual -dsimp only [↓SD, SU, simprocAttr, Int.natCast_add]) trivial⟩
 ·obtain rfl : k = l.length := by omega
  simp +contextual -dsimp only [↓SD, SU, simprocAttr, Aa, Nat.lt_irrefl]

theorem Aaj (x : Pat) (n : Int) (hx : Ad.bulk x ≤ 1099511627776) (h1 : -1 ≤ n) (h2 : n ≤ 1099511627776) : Lk 112 [av x, .int .i64 n] := by
 have hb : Ad.bulk x.nodes + 1 ≤ 1099511627776 := hx
 refine Ga.H rfl ?_
 simp +contextual -dsimp only [↓SD, SU, simprocAttr, Ga, C9]
 (repeat' (first | intro _ | refine And.intro ?_ ?_))
 all_goals first | omega | (refine Af.post [] ?_; simp +contextual -dsimp only [↓SD, SU, simprocAttr, Ga]; exact ⟨_, rfl, rfl, by omega, by omega⟩) | (refine Ae [] (S9 x.nodes _ (by omega)  (by omega) (by omega)) (by simp +contextual -dsimp only [↓SD, SU, simprocAttr]) ?_; rintro r hp' ⟨m, rfl, rfl, hm1, hm2⟩; simp +contextual -dsimp only [↓SD, SU, simprocAttr]; (repeat' (first | intro _ | refine And.intro ?_ ?_)))
 all_goals first | omega | (refine Af.post [] ?_; simp +contextual -dsimp only [↓SD, SU, simprocAttr, Ga]; exact ⟨_, rfl, rfl, by omega, by omega⟩)

theorem Aag (x : Pat) (hx : Ad.bulk x ≤ 1099511627776) : Ap Tryz.prog 121 [av x] (av x) := by
 have hb : Ad.bulk x.nodes + 1 ≤ 1099511627776 := hx
 refine KL.F rfl (by simp; exact AVal.clean x) (AVal.clean x) ?_
 simp +contextual -dsimp only [↓SD, SU, simprocAttr, KL, C9]
 (repeat' (first | intro _ | refine And.intro ?_ ?_))
 refine Ab _ (S6 x.nodes (by omega)) ?_
 simp +contextual -dsimp only [↓SD, SU, simprocAttr]

theorem Abu (x : Pat) (hx : Ad.bulk x ≤ 1099511627776) : Ap Tryz.prog 137 [av x, av x] (.bool true) := by
 have hb : Ad.bulk x.nodes + 1 ≤ 1099511627776 := hx
 refine KN.F rfl (by simp; exact AVal.clean x) (Ac.bool _) ?_
 simp +contextual -dsimp only [↓SD, SU, simprocAttr, KN, C9, beq_self_eq_true]
 refine Ab _ (UX x.nodes (by omega)) ?_
 simp +contextual -dsimp only [↓SD, SU, simprocAttr, beq_self_eq_true]

end Go.Proofs.YtjbcnilllfaipaaGreat
namespace Go.Proofs.YtjbcnilllfaipaaGreat

def D0 (e : Nat → Option Nat) : List Int → Nat → Option Nat
 | [], nx => some nx
 | k :: ks, nx => if k = nx then (match e nx with | some m => D0 e ks m | none => none) else none
def DV (K : Nat → List Int) (n : Nat) : Nat → Nat → Option Nat
 | 0, _ => none
 | f + 1, i => if i < n then D0 (DV K n f) (K i) (i + 1) else none
def H8 (K : Nat → List Int) (n f : Nat) (i : Int) (nx : Nat) : Option Nat := if i = nx then DV K n f nx else none

theorem Ss {e : Nat → Option Nat} {n : Nat} (he : ∀ a m, e a = some m → a < m ∧ m ≤ n) : ∀ {ks : List Int} {a m : Nat}, D0 e ks a = some m → a ≤ n → a ≤ m ∧ m ≤ n
 | [], a, m, h, ha => by cases h; exact ⟨Nat.le_refl _, ha⟩
 | k :: ks, a, m, h, ha => by
  unfold D0 at h
  split at h
  ·split at h
   ·rename_i m' hm'
    have h1 := he _ _ hm'
    have h2 := Ss he h h1.2
    omega
   ·cases h
  ·cases h
theorem MW (K : Nat → List Int) (n : Nat) : ∀ (f a m : Nat), DV K n f a = some m → a < m ∧ m ≤ n
 | 0, a, m, h => by cases h
 | f + 1, a, m, h => by
  unfold DV at h
  split at h
  ·have := Ss (MW K n f) h (by omega)
   omega
  ·cases h
theorem Ye {K : Nat → List Int} {n : Nat} {e : Nat → Option Nat} (hle : ∀ a m, e a = some m → a < m ∧ m ≤ n) (he : ∀ a m, e a = some m → ∀ i, a ≤ i → i < m → ∀ k ∈ K i, (i : Int) < k ∧ k < n) :
  ∀ {ks : List Int} {a m : Nat}, a ≤ n → D0 e ks a = some m → (∀ k ∈ ks, (a : Int) ≤ k ∧ k < m) ∧ ∀ i, a ≤ i → i < m → ∀ k ∈ K i, (i : Int) < k ∧ k < n
 | [], a, m, _, h => by cases h; exact ⟨fun k hk => (by cases hk), fun i h1 h2 => by omega⟩
 | k :: ks, a, m, ha, h => by
  unfold D0 at h
  split at h
  ·rename_i hk
   split at h
   ·rename_i m' hm'
    have h1 := hle _ _ hm'
    have h2 := Ye hle he h1.2 h
    have h3 := Ss hle h h1.2
    refine ⟨fun x hx => ?_, fun i h4 h5 => ?_⟩
    ·rcases List.mem_cons.1 hx with rfl | hx
     ·omega
     ·have := h2.1 x hx; omega
    ·rcases Nat.lt_or_ge i m' with h6 | h6
     ·exact he _ _ hm' i h4 h6
     ·exact h2.2 i h6 h5
   ·cases h
  ·cases h
theorem Abw (K : Nat → List Int) (n : Nat) : ∀ (f a m : Nat), DV K n f a = some m → ∀ i, a ≤ i → i < m → ∀ k ∈ K i, (i : Int) < k ∧ k < n
 | 0, a, m, h => by cases h
 | f + 1, a, m, h => by
  have hm := MW K n (f + 1) a m h
  unfold DV at h
  split at h
  ·rename_i hl
   have h1 := Ye (MW K n f) (Abw K n f) (by omega) h
   intro i hi him k hk
   rcases Nat.lt_or_ge a i with h2 | h2
   ·exact h1.2 i (by omega) him k hk
   ·obtain rfl : i = a := by omega
    have := h1.1 k hk
    omega
  ·cases h
def Fw (K : Nat → List Int) (n : Nat) : Bool := decide (DV K n (n + 1) 0 = some n)
theorem GJ {K : Nat → List Int} {n : Nat} (h : Fw K n = true) {i : Nat} (hi : i < n) {k : Int} (hk : k ∈ K i) : (i : Int) < k ∧ k < n :=
 Abw K n _ 0 n (of_decide_eq_true h) i (Nat.zero_le _) hi k hk
end Go.Proofs.YtjbcnilllfaipaaGreat
set_option linter.unusedVariables false
set_option maxRecDepth 100000
namespace Go.Proofs.YtjbcnilllfaipaaGreat
open Go.Proofs.YtjbcnilllfaipaaGreat.Av

theorem BF : Tryz.prog.follows .mixedOrders = true := by kernel_rfl

def II : Ir Tryz.prog 125 [] [] 3 := ⟨_, _, Tryz.func125, BF, by kernel_rfl, Ag [] Tryz.progTables (by conv => lhs; cbv) (by kernel_rfl)⟩
def KR : Ir Tryz.prog 127 [] [] 1 := ⟨_, _, Tryz.func127, BF, by kernel_rfl, Ag [] Tryz.progTables (by conv => lhs; cbv) (by kernel_rfl)⟩
def Kj : Ir Tryz.prog 51 [] [] 1 := ⟨_, _, Tryz.func51, BF, by kernel_rfl, Ag [] Tryz.progTables (by conv => lhs; cbv) (by kernel_rfl)⟩
def IG : Ir Tryz.prog 95 [] [] 0 := ⟨_, _, Tryz.func95, BF, by kernel_rfl, Ag [] Tryz.progTables (by conv => lhs; cbv) (by kernel_rfl)⟩
def DI : Ir Tryz.prog 94 [] [] 2 := ⟨_, _, Tryz.func94, BF, by kernel_rfl, Ag [] Tryz.progTables (by conv => lhs; cbv) (by kernel_rfl)⟩
def Ea : Ir Tryz.prog 130 [] [] 2 := ⟨_, _, Tryz.func130, BF, by kernel_rfl, Ag [] Tryz.progTables (by conv => lhs; cbv) (by kernel_rfl)⟩
def Iq : Ir Tryz.prog 72 [] [] 3 := ⟨_, _, Tryz.func72, BF, by kernel_rfl, Ag [] Tryz.progTables (by conv => lhs; cbv) (by kernel_rfl)⟩
def KK : Ir Tryz.prog 69 [] [] 1 := ⟨_, _, Tryz.func69, BF, by kernel_rfl, Ag [] Tryz.progTables (by conv => lhs; cbv) (by kernel_rfl)⟩
def J1 : Ir Tryz.prog 36 [] [] 1 := ⟨_, _, Tryz.func36, BF, by kernel_rfl, Ag [] Tryz.progTables (by conv => lhs; cbv) (by kernel_rfl)⟩
def Kd : Ir Tryz.prog 92 [] [] 1 := ⟨_, _, Tryz.func92, BF, by kernel_rfl, Ag [] Tryz.progTables (by conv => lhs; cbv) (by kernel_rfl)⟩
def Kh : Ir Tryz.prog 129 [] [] 1 := ⟨_, _, Tryz.func129, BF, by kernel_rfl, Ag [] Tryz.progTables (by conv => lhs; cbv) (by kernel_rfl)⟩
def Jz : Ir Tryz.prog 93 [] [] 1 := ⟨_, _, Tryz.func93, BF, by kernel_rfl, Ag [] Tryz.progTables (by conv => lhs; cbv) (by kernel_rfl)⟩
def Jy : Ir Tryz.prog 143 [] [] 1 := ⟨_, _, Tryz.func143, BF, by kernel_rfl, Ag [] Tryz.progTables (by conv => lhs; cbv) (by kernel_rfl)⟩
def JA : Ir Tryz.prog 145 [] [] 1 := ⟨_, _, Tryz.func145, BF, by kernel_rfl, Ag [] Tryz.progTables (by conv => lhs; cbv) (by kernel_rfl)⟩
def Jm : Ir Tryz.prog 67 [] [] 2 := ⟨_, _, Tryz.func67, BF, by kernel_rfl, Ag [] Tryz.progTables (by conv => lhs; cbv) (by kernel_rfl)⟩
def Is : Ir Tryz.prog 113 [] [] 1 := ⟨_, _, Tryz.func113, BF, by kernel_rfl, Ag [] Tryz.progTables (by conv => lhs; cbv) (by kernel_rfl)⟩
def Jn : Ir Tryz.prog 68 [] [] 1 := ⟨_, _, Tryz.func68, BF, by kernel_rfl, Ag [] Tryz.progTables (by conv => lhs; cbv) (by kernel_rfl)⟩
end Go.Proofs.YtjbcnilllfaipaaGreat
set_option linter.unusedVariables false
set_option maxRecDepth 100000
namespace Go.Proofs.YtjbcnilllfaipaaGreat
open Go.Proofs.YtjbcnilllfaipaaGreat.Av

theorem JG : Tryz.prog.follows .mixedOrders = true := by kernel_rfl

def Ke : Ir Tryz.prog 85 [] [] 3 := ⟨_, _, Tryz.func85, JG, by kernel_rfl, Ag [] Tryz.progTables (by conv => lhs; cbv) (by kernel_rfl)⟩
def GM : Ir Tryz.prog 119 [] [] 1 := ⟨_, _, Tryz.func119, JG, by kernel_rfl, Ag [] Tryz.progTables (by conv => lhs; cbv) (by kernel_rfl)⟩
end Go.Proofs.YtjbcnilllfaipaaGreat
set_option linter.unusedVariables false
set_option linter.unusedSimpArgs false
set_option maxRecDepth 100000
namespace Go.Proofs.YtjbcnilllfaipaaGreat
open Go.RowKit Go.Proofs.YtjbcnilllfaipaaGreat.Av Go.Proofs.YtjbcnilllfaipaaGreat.Ml
open Go.Proofs.YtjbcnilllfaipaaGreat.Av.AVal (av)

theorem pu8 (n : Int) : Ac (.int .u8 n) := Ac.int _ _
theorem Em (n lo hi : Int) : Ap Tryz.prog 85 [.int .i64 n, .int .i64 lo, .int .i64 hi] (.bool (decide (lo ≤ n) && decide (n ≤ hi))) := by
 refine Ke.F rfl (by simp; exact ⟨Ac.int _ _, Ac.int _ _, Ac.int _ _⟩) (Ac.bool _) ?_
 simp +contextual -dsimp only [↓SD, SU, simprocAttr, Ke]
 (repeat' (first | intro _ | refine And.intro ?_ ?_))
 all_goals simp [*]

theorem b8 (s : ByteArray) (i : Nat) : (0 : Int) ≤ (D7 s i).toNat ∧ ((D7 s i).toNat : Int) ≤ 255 := by
 have := (D7 s i).toNat_lt; omega

def indexOf {α : Type} (l : List α) (p : α → Bool) : Int := match l.findIdx? p with | some i => (i : Int) | none => -1
theorem K7 {α : Type} {l : List α} {p : α → Bool} {k : Nat} (hk : k < l.length) (h : (l.take k).all (fun x => !p x) = true) (hp : p l[k] = true) : indexOf l p = k := by
 have : l.findIdx? p = some k := by
  rw [List.findIdx?_eq_some_iff_getElem]
  refine ⟨hk, hp, fun j hj => ?_⟩
  have := (List.all_eq_true.1 h) l[j] (by rw [List.mem_take_iff_getElem]; exact ⟨j, by omega, rfl⟩)
  simpa using this
 simp [indexOf, this]
theorem I4 {α : Type} {l : List α} {p : α → Bool} (h : l.all (fun x => !p x) = true) : indexOf l p = -1 := by
 have : l.findIdx? p = none := by
  rw [List.findIdx?_eq_none_iff]
  intro x hx
  simpa using (List.all_eq_true.1 h) x hx
 simp [indexOf, this]
theorem Kk {α : Type} (l : List α) (p : α → Bool) : decide (0 ≤ indexOf l p) = l.any p := by
 unfold indexOf
 cases h : l.findIdx? p with
 | none =>
  rw [List.findIdx?_eq_none_iff] at h
  have : l.any p = false := by rw [List.any_eq_false]; intro x hx; simp [h x hx]
  simp [this]
 | some i =>
  rw [List.findIdx?_eq_some_iff_getElem] at h
  obtain ⟨hi, hp, _⟩ := h
  have : l.any p = true := by rw [List.any_eq_true]; exact ⟨l[i], List.getElem_mem hi, hp⟩
  simp [this]
end Go.Proofs.YtjbcnilllfaipaaGreat
