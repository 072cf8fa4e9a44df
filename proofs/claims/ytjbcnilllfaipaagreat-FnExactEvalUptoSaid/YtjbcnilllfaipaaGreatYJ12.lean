/-
 Bw, Ty BY ABSTRACT TEXTS: as abstract values, copies, comparisons, Lx. Conditions: none. Printed by genav.py.
-/
import Derived.Test.YtjbcnilllfaipaaGreatYJ10
import Derived.Test.YtjbcnilllfaipaaGreatYJ06
import Derived.Test.YtjbcnilllfaipaaGreatYJ11
import Derived.Test.YtjbcnilllfaipaaGreatProg
import Derived.Test.YtjbcnilllfaipaaGreatYAvDraw
set_option linter.unusedVariables false
set_option linter.unusedSimpArgs false
set_option maxRecDepth 100000
namespace Go.Proofs.YtjbcnilllfaipaaGreat
open Go.RowKit Go.Proofs.YtjbcnilllfaipaaGreat.Av Go.Proofs.YtjbcnilllfaipaaGreat.Ml
open Go.Proofs.YtjbcnilllfaipaaGreat.Av.AVal (av)

instance : AVal Bw := ⟨fun x => .agg [.int .i64 x.var, .str x.name, .int .i64 x.arity], 3, fun _ => rfl, fun _ => rfl, fun x y hy => by
 simp only [AV.cells, List.mem_cons, List.not_mem_nil, or_false] at hy
 rcases hy with rfl | rfl | rfl <;> first | exact Ac.int _ _ | exact Ac.str _ | exact Ac.bool _, fun _ _ => rfl, fun x y hy => by
 simp only [AV.cells, List.mem_cons, List.not_mem_nil, or_false] at hy
 rcases hy with rfl | rfl | rfl <;> rfl⟩
theorem AY (x : Bw) : av x = .agg [.int .i64 x.var, .str x.name, .int .i64 x.arity] := eqq rfl
instance : FF Bw := ⟨fun {S w cs y} h => by
 obtain ⟨rfl, h0, h1, h2⟩ := h
 exact VRs.cons (.int _ _ h0.1 h0.2) (VRs.cons (.str _ h1) (VRs.cons (.int _ _ h2.1 h2.2) (VRs.nil)))⟩

instance : AVal Ty := ⟨fun x => .agg [.sl (x.items.map av)], 1, fun _ => rfl, fun _ => rfl, fun x y hy => by
 simp only [AV.cells, List.mem_cons, List.not_mem_nil, or_false] at hy
 subst hy; first | exact Ac.int _ _ | exact Ac.str _ | exact Ac.bool _ | exact Aq x.items, fun _ _ => rfl, fun x y hy => by
 simp only [AV.cells, List.mem_cons, List.not_mem_nil, or_false] at hy
 subst hy; rfl⟩
theorem Mw (x : Ty) : av x = .agg [.sl (x.items.map av)] := eqq rfl
instance : FF Ty := ⟨fun {S w cs y} h => by
 obtain ⟨v0, rfl, r0⟩ := h
 exact VRs.cons (Ej r0) (VRs.nil)⟩

theorem S8 (x : Bw) (n : Int) (hx : Ad.bulk x ≤ 1099511627776) (h1 : -1 ≤ n) (h2 : n ≤ 1099511627776) : Lk 164 [av x, .int .i64 n] := by
 have hb : Ad.bulk x.var + Ad.bulk x.name + Ad.bulk x.arity + 1 ≤ 1099511627776 := hx
 have e1 : Ad.bulk x.name = x.name.size + 1 := rfl
 refine F5.H rfl ?_
 simp +contextual -dsimp only [↓SD, SU, simprocAttr, F5, AY]
 (repeat' (first | intro _ | refine And.intro ?_ ?_))
 all_goals first | omega | (refine Af.post [] ?_; simp +contextual -dsimp only [↓SD, SU, simprocAttr, F5]; exact ⟨_, rfl, rfl, by omega, by omega⟩)

theorem M6 (x : Bw) (hx : Ad.bulk x ≤ 1099511627776) : Ap Tryz.prog 165 [av x] (av x) := by
 have hb : Ad.bulk x.var + Ad.bulk x.name + Ad.bulk x.arity + 1 ≤ 1099511627776 := hx
 refine Iu.F rfl (by simp; exact AVal.clean x) (AVal.clean x) ?_
 simp +contextual -dsimp only [↓SD, SU, simprocAttr, Iu, AY]

theorem UW (x : Bw) (hx : Ad.bulk x ≤ 1099511627776) : Ap Tryz.prog 167 [av x, av x] (.bool true) := by
 have hb : Ad.bulk x.var + Ad.bulk x.name + Ad.bulk x.arity + 1 ≤ 1099511627776 := hx
 refine IE.F rfl (by simp; exact AVal.clean x) (Ac.bool _) ?_
 simp +contextual -dsimp only [↓SD, SU, simprocAttr, IE, AY, beq_self_eq_true]

theorem RY (l : List Bw) (n : Int) (hx : Ad.bulk l ≤ 1099511627776) (h1 : -1 ≤ n) (h2 : n ≤ 1099511627776) : Lk 156 [.sl (l.map av), .int .i64 n] := by
 have hl := Ao l
 refine DJ.H rfl ?_
 simp +contextual -dsimp only [↓SD, SU, simprocAttr, DJ, Aa]
 refine ⟨by omega, fun h => ?_, fun h => ?_⟩
 ·refine Af.post [] ?_; simp +contextual -dsimp only [↓SD, SU, simprocAttr, DJ]; exact ⟨_, rfl, rfl, by omega, by omega⟩
 refine Al (X := Nat × Int) (fun x => ⟨[(0, .sl (l.map av)), (1, .int .i64 x.2), (5, .int .i64 x.1)], []⟩) (fun x => x.1 ≤ l.length ∧ 0 ≤ x.2 ∧ x.2 ≤ 1099511627776) (fun x => l.length - x.1) (0, n - l.length) ⟨Nat.zero_le _, by simp only; omega, by simp only; omega⟩ (by simp +contextual -dsimp only [↓SD, SU, simprocAttr]) trivial ?_
 rintro ⟨k, m⟩ ⟨hk, hm0, hm1⟩
 simp only at hk hm0 hm1
 by_cases hlt : k < l.length
 ·have e := getD_map av l k .top hlt
  have hbk : Ad.bulk l[k] ≤ 1099511627776 := by have := AW (List.getElem_mem hlt); omega
  simp +contextual -dsimp only [↓SD, SU, simprocAttr, Aa, hlt, e, AY]
  refine Ae [] (S8 l[k] m hbk (by omega) hm1) (by simp +contextual -dsimp only [↓SD, SU, simprocAttr]) ?_
  rintro r hp' ⟨q, rfl, rfl, hq1, hq2⟩
  simp +contextual -dsimp only [↓SD, SU, simprocAttr]
  (repeat' (first | intro _ | refine And.intro ?_ ?_))
  all_goals first | omega | (refine Af.post [] ?_; simp +contextual -dsimp only [↓SD, SU, simprocAttr, DJ]; exact ⟨_, rfl, rfl, by omega, by omega⟩) | exact Af.le ⟨(k + 1, q), ⟨⟨hlt, by simp only; omega, hq2⟩, (by first | omega | (simp only; omega))⟩, rfl⟩ (by simp +contextual -dsimp only [↓SD, SU, simprocAttr, Int.natCast_add]) trivial
 ·obtain rfl : k = l.length := by omega
  simp +contextual -dsimp only [↓SD, SU, simprocAttr, Aa, Nat.lt_irrefl]
  refine Af.post [] ?_
  simp +contextual -dsimp only [↓SD, SU, simprocAttr, DJ]
  exact ⟨_, rfl, rfl, by omega, by omega⟩

theorem RU (l : List Bw) (hx : Ad.bulk l ≤ 1099511627776) : Ap Tryz.prog 158 [.sl (l.map av)] (.sl (l.map av)) := by
 have hl := Ao l
 refine Hx.F rfl (by simp; exact Aq l) (Aq l) ?_
 simp +contextual -dsimp only [↓SD, SU, simprocAttr, Hx, Aa]
 refine ⟨by omega, fun v => ?_⟩
 refine Al (X := Nat) (fun k => ⟨[(0, .sl (l.map av)), (3, .row 7 v l.length), (4, .int .i64 k)], [(7, ⟨v, false, 137, 3, FD l (AV.agg [.int .i64 0, .str (bs []), .int .i64 0]) k⟩)]⟩) (fun k => k ≤ l.length) (fun k => l.length - k) 0 (Nat.zero_le _) (by simp +contextual -dsimp only [↓SD, SU, simprocAttr]) (by simp +contextual -dsimp only [↓SD, SU, simprocAttr, Eg]) ?_
 intro k hk
 by_cases hlt : k < l.length
 ·have e := getD_map av l k .top hlt
  have e1 := Cv (AV.agg [.int .i64 0, .str (bs []), .int .i64 0]) hk
  have e2 := EO (AV.agg [.int .i64 0, .str (bs []), .int .i64 0]) hlt .top
  have e3 := EN (z := (AV.agg [.int .i64 0, .str (bs []), .int .i64 0])) hlt rfl
  have hbk : Ad.bulk l[k] ≤ 1099511627776 := by have := AW (List.getElem_mem hlt); omega
  rw [AY] at e3
  simp +contextual -dsimp only [↓SD, SU, simprocAttr, Aa, hlt, e, AY]
  have C := M6 l[k] hbk
  rw [AY] at C
  refine Ab _ C ?_
  simp +contextual -dsimp only [↓SD, SU, simprocAttr, Aa, hlt, e, AY, e1, e2, e3]
  refine ⟨by omega, Af.le ⟨k + 1, ⟨hlt, (by first | omega | (simp only; omega))⟩, rfl⟩ (by simp +contextual -dsimp only [↓SD, SU, simprocAttr, Int.natCast_add]) (by simp +contextual -dsimp only [↓SD, SU, simprocAttr, e2, e3])⟩
 ·obtain rfl : k = l.length := by omega
  have e1 := Cv (AV.agg [.int .i64 0, .str (bs []), .int .i64 0]) hk
  simp +contextual -dsimp only [↓SD, SU, simprocAttr, Aa, Nat.lt_irrefl, Eh, AA, List.take_length]
  try simp [List.take_of_length_le]

theorem SI (l : List Bw) (hx : Ad.bulk l ≤ 1099511627776) : Ap Tryz.prog 162 [.sl (l.map av), .sl (l.map av)] (.bool true) := by
 have hl := Ao l
 refine HD.F rfl (by simp; exact Aq l) (Ac.bool _) ?_
 simp +contextual -dsimp only [↓SD, SU, simprocAttr, HD, Aa]
 refine Al (X := Nat) (fun k => ⟨[(0, .sl (l.map av)), (1, .sl (l.map av)), (5, .int .i64 k)], []⟩) (fun k => k ≤ l.length) (fun k => l.length - k) 0 (Nat.zero_le _) (by simp +contextual -dsimp only [↓SD, SU, simprocAttr]) trivial ?_
 intro k hk
 by_cases hlt : k < l.length
 ·have e := getD_map av l k .top hlt
  have hbk : Ad.bulk l[k] ≤ 1099511627776 := by have := AW (List.getElem_mem hlt); omega
  simp +contextual -dsimp only [↓SD, SU, simprocAttr, Aa, hlt, e, AY]
  have C := UW l[k] hbk
  rw [AY] at C
  refine Ab _ C ?_
  simp +contextual -dsimp only [↓SD, SU, simprocAttr, Aa, hlt, e, AY]
  exact ⟨by omega, Af.le ⟨k + 1, ⟨hlt, (by first | omega | (simp only; omega))⟩, rfl⟩ (by simp +contextual -dsimp only [↓SD, SU, simprocAttr, Int.natCast_add]) trivial⟩
 ·obtain rfl : k = l.length := by omega
  simp +contextual -dsimp only [↓SD, SU, simprocAttr, Aa, Nat.lt_irrefl]

theorem Ab9 (x : Ty) (n : Int) (hx : Ad.bulk x ≤ 1099511627776) (h1 : -1 ≤ n) (h2 : n ≤ 1099511627776) : Lk 138 [av x, .int .i64 n] := by
 have hb : Ad.bulk x.items + 1 ≤ 1099511627776 := hx
 refine GO.H rfl ?_
 simp +contextual -dsimp only [↓SD, SU, simprocAttr, GO, Mw]
 (repeat' (first | intro _ | refine And.intro ?_ ?_))
 all_goals first | omega | (refine Af.post [] ?_; simp +contextual -dsimp only [↓SD, SU, simprocAttr, GO]; exact ⟨_, rfl, rfl, by omega, by omega⟩) | (refine Ae [] (RY x.items _ (by omega)  (by omega) (by omega)) (by simp +contextual -dsimp only [↓SD, SU, simprocAttr]) ?_; rintro r hp' ⟨m, rfl, rfl, hm1, hm2⟩; simp +contextual -dsimp only [↓SD, SU, simprocAttr]; (repeat' (first | intro _ | refine And.intro ?_ ?_)))
 all_goals first | omega | (refine Af.post [] ?_; simp +contextual -dsimp only [↓SD, SU, simprocAttr, GO]; exact ⟨_, rfl, rfl, by omega, by omega⟩)

theorem Ab8 (x : Ty) (hx : Ad.bulk x ≤ 1099511627776) : Ap Tryz.prog 141 [av x] (av x) := by
 have hb : Ad.bulk x.items + 1 ≤ 1099511627776 := hx
 refine L0.F rfl (by simp; exact AVal.clean x) (AVal.clean x) ?_
 simp +contextual -dsimp only [↓SD, SU, simprocAttr, L0, Mw]
 (repeat' (first | intro _ | refine And.intro ?_ ?_))
 refine Ab _ (RU x.items (by omega)) ?_
 simp +contextual -dsimp only [↓SD, SU, simprocAttr]

theorem AcO (x : Ty) (hx : Ad.bulk x ≤ 1099511627776) : Ap Tryz.prog 154 [av x, av x] (.bool true) := by
 have hb : Ad.bulk x.items + 1 ≤ 1099511627776 := hx
 refine L1.F rfl (by simp; exact AVal.clean x) (Ac.bool _) ?_
 simp +contextual -dsimp only [↓SD, SU, simprocAttr, L1, Mw, beq_self_eq_true]
 refine Ab _ (SI x.items (by omega)) ?_
 simp +contextual -dsimp only [↓SD, SU, simprocAttr, beq_self_eq_true]

end Go.Proofs.YtjbcnilllfaipaaGreat
set_option linter.unusedVariables false
set_option maxRecDepth 100000
namespace Go.Proofs.YtjbcnilllfaipaaGreat
open Go.Proofs.YtjbcnilllfaipaaGreat.Av

theorem A9 : Tryz.prog.follows .mixedOrders = true := by kernel_rfl

def Gb : Ir Tryz.prog 111 [(15, 7777)] [9999] 2 := ⟨_, _, Tryz.func111, A9, by kernel_rfl, Ag [] Tryz.progTables (by conv => lhs; cbv) (by kernel_rfl)⟩
def KM : Ir Tryz.prog 120 [] [] 1 := ⟨_, _, Tryz.func120, A9, by kernel_rfl, Ag [] Tryz.progTables (by conv => lhs; cbv) (by kernel_rfl)⟩
def KO : Ir Tryz.prog 136 [] [] 2 := ⟨_, _, Tryz.func136, A9, by kernel_rfl, Ag [] Tryz.progTables (by conv => lhs; cbv) (by kernel_rfl)⟩
def EA : Ir Tryz.prog 64 [(23, 7777)] [9999] 2 := ⟨_, _, Tryz.func64, A9, by kernel_rfl, Ag [] Tryz.progTables (by conv => lhs; cbv) (by kernel_rfl)⟩
def J7 : Ir Tryz.prog 83 [] [] 1 := ⟨_, _, Tryz.func83, A9, by kernel_rfl, Ag [] Tryz.progTables (by conv => lhs; cbv) (by kernel_rfl)⟩
def Kc : Ir Tryz.prog 107 [] [] 2 := ⟨_, _, Tryz.func107, A9, by kernel_rfl, Ag [] Tryz.progTables (by conv => lhs; cbv) (by kernel_rfl)⟩
def FN : Ir Tryz.prog 34 [(15, 7777)] [9999] 2 := ⟨_, _, Tryz.func34, A9, by kernel_rfl, Ag [] Tryz.progTables (by conv => lhs; cbv) (by kernel_rfl)⟩
def J2 : Ir Tryz.prog 47 [] [] 1 := ⟨_, _, Tryz.func47, A9, by kernel_rfl, Ag [] Tryz.progTables (by conv => lhs; cbv) (by kernel_rfl)⟩
def J8 : Ir Tryz.prog 59 [] [] 2 := ⟨_, _, Tryz.func59, A9, by kernel_rfl, Ag [] Tryz.progTables (by conv => lhs; cbv) (by kernel_rfl)⟩
def Ez : Ir Tryz.prog 35 [(15, 7777), (21, 7777)] [9999] 2 := ⟨_, _, Tryz.func35, A9, by kernel_rfl, Ag [] Tryz.progTables (by conv => lhs; cbv) (by kernel_rfl)⟩
def J5 : Ir Tryz.prog 48 [] [] 1 := ⟨_, _, Tryz.func48, A9, by kernel_rfl, Ag [] Tryz.progTables (by conv => lhs; cbv) (by kernel_rfl)⟩
def Ka : Ir Tryz.prog 60 [] [] 2 := ⟨_, _, Tryz.func60, A9, by kernel_rfl, Ag [] Tryz.progTables (by conv => lhs; cbv) (by kernel_rfl)⟩
def Ek : Ir Tryz.prog 16 [(23, 7777)] [9999] 2 := ⟨_, _, Tryz.func16, A9, by kernel_rfl, Ag [] Tryz.progTables (by conv => lhs; cbv) (by kernel_rfl)⟩
def Jp : Ir Tryz.prog 21 [] [] 1 := ⟨_, _, Tryz.func21, A9, by kernel_rfl, Ag [] Tryz.progTables (by conv => lhs; cbv) (by kernel_rfl)⟩
def Ju : Ir Tryz.prog 28 [] [] 2 := ⟨_, _, Tryz.func28, A9, by kernel_rfl, Ag [] Tryz.progTables (by conv => lhs; cbv) (by kernel_rfl)⟩
def El : Ir Tryz.prog 17 [(23, 7777)] [9999] 2 := ⟨_, _, Tryz.func17, A9, by kernel_rfl, Ag [] Tryz.progTables (by conv => lhs; cbv) (by kernel_rfl)⟩
def Js : Ir Tryz.prog 22 [] [] 1 := ⟨_, _, Tryz.func22, A9, by kernel_rfl, Ag [] Tryz.progTables (by conv => lhs; cbv) (by kernel_rfl)⟩
def Jw : Ir Tryz.prog 29 [] [] 2 := ⟨_, _, Tryz.func29, A9, by kernel_rfl, Ag [] Tryz.progTables (by conv => lhs; cbv) (by kernel_rfl)⟩
def DK : Ir Tryz.prog 4 [(14, 7777), (8, 7777)] [9999] 2 := ⟨_, _, Tryz.func4, A9, by kernel_rfl, Ag [] Tryz.progTables (by conv => lhs; cbv) (by kernel_rfl)⟩
def Hy : Ir Tryz.prog 6 [] [] 1 := ⟨_, _, Tryz.func6, A9, by kernel_rfl, Ag [] Tryz.progTables (by conv => lhs; cbv) (by kernel_rfl)⟩
def HF : Ir Tryz.prog 10 [] [] 2 := ⟨_, _, Tryz.func10, A9, by kernel_rfl, Ag [] Tryz.progTables (by conv => lhs; cbv) (by kernel_rfl)⟩
end Go.Proofs.YtjbcnilllfaipaaGreat
