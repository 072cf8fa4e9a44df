/-
 Bb, Ty BY ABSTRACT TEXTS: as abstract values, copies, comparisons, AM. Conditions: none. Printed by genav.py.
-/
import Derived.Test.YtppjinmlfcokaaaGreatJJ01
import Derived.Test.YtppjinmlfcokaaaGreatJJ07
import Derived.Test.YtppjinmlfcokaaaGreatJJ08
import Derived.Test.YtppjinmlfcokaaaGreatProg
import Derived.Test.YtppjinmlfcokaaaGreatJAvDraw
set_option linter.unusedVariables false
set_option linter.unusedSimpArgs false
set_option maxRecDepth 100000
namespace Go.Proofs.YtppjinmlfcokaaaGreat
open Go.RowKit Go.Proofs.YtppjinmlfcokaaaGreat.Av Go.Proofs.YtppjinmlfcokaaaGreat.Ml
open Go.Proofs.YtppjinmlfcokaaaGreat.Av.AVal (av)

instance : AVal Bb := ⟨fun x => .agg [.int .i64 x.var, .str x.name, .int .i64 x.arity], 3, fun _ => rfl, fun _ => rfl, fun x y hy => by
 simp only [AV.cells, List.mem_cons, List.not_mem_nil, or_false] at hy
 rcases hy with rfl | rfl | rfl <;> first | exact Ae.int _ _ | exact Ae.str _ | exact Ae.bool _, fun _ _ => rfl, fun x y hy => by
 simp only [AV.cells, List.mem_cons, List.not_mem_nil, or_false] at hy
 rcases hy with rfl | rfl | rfl <;> rfl⟩
theorem AY (x : Bb) : av x = .agg [.int .i64 x.var, .str x.name, .int .i64 x.arity] := eqq rfl
instance : Gd Bb := ⟨fun {S w cs y} h => by
 obtain ⟨rfl, h0, h1, h2⟩ := h
 exact VRs.cons (.int _ _ h0.1 h0.2) (VRs.cons (.str _ h1) (VRs.cons (.int _ _ h2.1 h2.2) (VRs.nil)))⟩

instance : AVal Ty := ⟨fun x => .agg [.sl (x.items.map av)], 1, fun _ => rfl, fun _ => rfl, fun x y hy => by
 simp only [AV.cells, List.mem_cons, List.not_mem_nil, or_false] at hy
 subst hy; first | exact Ae.int _ _ | exact Ae.str _ | exact Ae.bool _ | exact Ao x.items, fun _ _ => rfl, fun x y hy => by
 simp only [AV.cells, List.mem_cons, List.not_mem_nil, or_false] at hy
 subst hy; rfl⟩
theorem Nv (x : Ty) : av x = .agg [.sl (x.items.map av)] := eqq rfl
instance : Gd Ty := ⟨fun {S w cs y} h => by
 obtain ⟨v0, rfl, r0⟩ := h
 exact VRs.cons (Fe r0) (VRs.nil)⟩

theorem Ul (x : Bb) (n : Int) (hx : Ac.bulk x ≤ 4294967296) (h1 : -1 ≤ n) (h2 : n ≤ 4294967296) : Mj 208 [av x, .int .i64 n] := by
 have hb : Ac.bulk x.var + Ac.bulk x.name + Ac.bulk x.arity + 1 ≤ 4294967296 := hx
 have e1 : Ac.bulk x.name = x.name.size + 1 := rfl
 refine Gq.H rfl ?_
 simp +contextual -dsimp only [↓SD, SU, simprocAttr, Gq, AY]
 (repeat' (first | intro _ | refine And.intro ?_ ?_))
 all_goals first | omega | (refine Af.post [] ?_; simp +contextual -dsimp only [↓SD, SU, simprocAttr, Gq]; exact ⟨_, rfl, rfl, by omega, by omega⟩)

theorem N3 (x : Bb) (hx : Ac.bulk x ≤ 4294967296) : Ak Tryz.prog 209 [av x] (av x) := by
 have hb : Ac.bulk x.var + Ac.bulk x.name + Ac.bulk x.arity + 1 ≤ 4294967296 := hx
 refine I9.F rfl (by simp; exact AVal.clean x) (AVal.clean x) ?_
 simp +contextual -dsimp only [↓SD, SU, simprocAttr, I9, AY]

theorem Wo (x : Bb) (hx : Ac.bulk x ≤ 4294967296) : Ak Tryz.prog 210 [av x, av x] (.bool true) := by
 have hb : Ac.bulk x.var + Ac.bulk x.name + Ac.bulk x.arity + 1 ≤ 4294967296 := hx
 refine Jm.F rfl (by simp; exact AVal.clean x) (Ae.bool _) ?_
 simp +contextual -dsimp only [↓SD, SU, simprocAttr, Jm, AY, beq_self_eq_true]

theorem Ti (l : List Bb) (n : Int) (hx : Ac.bulk l ≤ 4294967296) (h1 : -1 ≤ n) (h2 : n ≤ 4294967296) : Mj 200 [.sl (l.map av), .int .i64 n] := by
 have hl := Ag l
 refine DE.H rfl ?_
 simp +contextual -dsimp only [↓SD, SU, simprocAttr, DE, Aa]
 refine ⟨by omega, fun h => ?_, fun h => ?_⟩
 ·refine Af.post [] ?_; simp +contextual -dsimp only [↓SD, SU, simprocAttr, DE]; exact ⟨_, rfl, rfl, by omega, by omega⟩
 refine Am (X := Nat × Int) (fun x => ⟨[(0, .sl (l.map av)), (1, .int .i64 x.2), (5, .int .i64 x.1)], []⟩) (fun x => x.1 ≤ l.length ∧ 0 ≤ x.2 ∧ x.2 ≤ 4294967296) (fun x => l.length - x.1) (0, n - l.length) ⟨Nat.zero_le _, by simp only; omega, by simp only; omega⟩ (by simp +contextual -dsimp only [↓SD, SU, simprocAttr]) trivial ?_
 rintro ⟨k, m⟩ ⟨hk, hm0, hm1⟩
 simp only at hk hm0 hm1
 by_cases hlt : k < l.length
 ·have e := getD_map av l k .top hlt
  have hbk : Ac.bulk l[k] ≤ 4294967296 := by have := AG (List.getElem_mem hlt); omega
  simp +contextual -dsimp only [↓SD, SU, simprocAttr, Aa, hlt, e, AY]
  refine BB [] (Ul l[k] m hbk (by omega) hm1) (by simp +contextual -dsimp only [↓SD, SU, simprocAttr]) ?_
  rintro r hp' ⟨q, rfl, rfl, hq1, hq2⟩
  simp +contextual -dsimp only [↓SD, SU, simprocAttr]
  (repeat' (first | intro _ | refine And.intro ?_ ?_))
  all_goals first | omega | (refine Af.post [] ?_; simp +contextual -dsimp only [↓SD, SU, simprocAttr, DE]; exact ⟨_, rfl, rfl, by omega, by omega⟩) | exact Af.le ⟨(k + 1, q), ⟨⟨hlt, by simp only; omega, hq2⟩, (by first | omega | (simp only; omega))⟩, rfl⟩ (by simp +contextual -dsimp only [↓SD, SU, simprocAttr, Int.natCast_add]) trivial
 ·obtain rfl : k = l.length := by omega
  simp +contextual -dsimp only [↓SD, SU, simprocAttr, Aa, Nat.lt_irrefl]
  refine Af.post [] ?_
  simp +contextual -dsimp only [↓SD, SU, simprocAttr, DE]
  exact ⟨_, rfl, rfl, by omega, by omega⟩

theorem Te (l : List Bb) (hx : Ac.bulk l ≤ 4294967296) : Ak Tryz.prog 202 [.sl (l.map av)] (.sl (l.map av)) := by
 have hl := Ag l
 refine Ic.F rfl (by simp; exact Ao l) (Ao l) ?_
 simp +contextual -dsimp only [↓SD, SU, simprocAttr, Ic, Aa]
 refine ⟨by omega, fun v => ?_⟩
 refine Am (X := Nat) (fun k => ⟨[(0, .sl (l.map av)), (3, .row 7 v l.length), (4, .int .i64 k)], [(7, ⟨v, false, 136, 3, FI l (AV.agg [.int .i64 0, .str (bs []), .int .i64 0]) k⟩)]⟩) (fun k => k ≤ l.length) (fun k => l.length - k) 0 (Nat.zero_le _) (by simp +contextual -dsimp only [↓SD, SU, simprocAttr]) (by simp +contextual -dsimp only [↓SD, SU, simprocAttr, Ea]) ?_
 intro k hk
 by_cases hlt : k < l.length
 ·have e := getD_map av l k .top hlt
  have e1 := Ct (AV.agg [.int .i64 0, .str (bs []), .int .i64 0]) hk
  have e2 := EV (AV.agg [.int .i64 0, .str (bs []), .int .i64 0]) hlt .top
  have e3 := EU (z := (AV.agg [.int .i64 0, .str (bs []), .int .i64 0])) hlt rfl
  have hbk : Ac.bulk l[k] ≤ 4294967296 := by have := AG (List.getElem_mem hlt); omega
  rw [AY] at e3
  simp +contextual -dsimp only [↓SD, SU, simprocAttr, Aa, hlt, e, AY]
  have C := N3 l[k] hbk
  rw [AY] at C
  refine Ab _ C ?_
  simp +contextual -dsimp only [↓SD, SU, simprocAttr, Aa, hlt, e, AY, e1, e2, e3]
  refine ⟨by omega, Af.le ⟨k + 1, ⟨hlt, (by first | omega | (simp only; omega))⟩, rfl⟩ (by simp +contextual -dsimp only [↓SD, SU, simprocAttr, Int.natCast_add]) (by simp +contextual -dsimp only [↓SD, SU, simprocAttr, e2, e3])⟩
 ·obtain rfl : k = l.length := by omega
  have e1 := Ct (AV.agg [.int .i64 0, .str (bs []), .int .i64 0]) hk
  simp +contextual -dsimp only [↓SD, SU, simprocAttr, Aa, Nat.lt_irrefl, Eb, AK, List.take_length]
  try simp [List.take_of_length_le]

theorem TW (l : List Bb) (hx : Ac.bulk l ≤ 4294967296) : Ak Tryz.prog 206 [.sl (l.map av), .sl (l.map av)] (.bool true) := by
 have hl := Ag l
 refine Im.F rfl (by simp; exact Ao l) (Ae.bool _) ?_
 simp +contextual -dsimp only [↓SD, SU, simprocAttr, Im, Aa]
 refine Am (X := Nat) (fun k => ⟨[(0, .sl (l.map av)), (1, .sl (l.map av)), (5, .int .i64 k)], []⟩) (fun k => k ≤ l.length) (fun k => l.length - k) 0 (Nat.zero_le _) (by simp +contextual -dsimp only [↓SD, SU, simprocAttr]) trivial ?_
 intro k hk
 by_cases hlt : k < l.length
 ·have e := getD_map av l k .top hlt
  have hbk : Ac.bulk l[k] ≤ 4294967296 := by have := AG (List.getElem_mem hlt); omega
  simp +contextual -dsimp only [↓SD, SU, simprocAttr, Aa, hlt, e, AY]
  have C := Wo l[k] hbk
  rw [AY] at C
  refine Ab _ C ?_
  simp +contextual -dsimp only [↓SD, SU, simprocAttr, Aa, hlt, e, AY]
  exact ⟨by omega, Af.le ⟨k + 1, ⟨hlt, (by first | omega | (simp only; omega))⟩, rfl⟩ (by simp +contextual -dsimp only [↓SD, SU, simprocAttr, Int.natCast_add]) trivial⟩
 ·obtain rfl : k = l.length := by omega
  simp +contextual -dsimp only [↓SD, SU, simprocAttr, Aa, Nat.lt_irrefl]

theorem AdV (x : Ty) (n : Int) (hx : Ac.bulk x ≤ 4294967296) (h1 : -1 ≤ n) (h2 : n ≤ 4294967296) : Mj 174 [av x, .int .i64 n] := by
 have hb : Ac.bulk x.items + 1 ≤ 4294967296 := hx
 refine He.H rfl ?_
 simp +contextual -dsimp only [↓SD, SU, simprocAttr, He, Nv]
 (repeat' (first | intro _ | refine And.intro ?_ ?_))
 all_goals first | omega | (refine Af.post [] ?_; simp +contextual -dsimp only [↓SD, SU, simprocAttr, He]; exact ⟨_, rfl, rfl, by omega, by omega⟩) | (refine BB [] (Ti x.items _ (by omega)  (by omega) (by omega)) (by simp +contextual -dsimp only [↓SD, SU, simprocAttr]) ?_; rintro r hp' ⟨m, rfl, rfl, hm1, hm2⟩; simp +contextual -dsimp only [↓SD, SU, simprocAttr]; (repeat' (first | intro _ | refine And.intro ?_ ?_)))
 all_goals first | omega | (refine Af.post [] ?_; simp +contextual -dsimp only [↓SD, SU, simprocAttr, He]; exact ⟨_, rfl, rfl, by omega, by omega⟩)

theorem AdU (x : Ty) (hx : Ac.bulk x ≤ 4294967296) : Ak Tryz.prog 186 [av x] (av x) := by
 have hb : Ac.bulk x.items + 1 ≤ 4294967296 := hx
 refine M3.F rfl (by simp; exact AVal.clean x) (AVal.clean x) ?_
 simp +contextual -dsimp only [↓SD, SU, simprocAttr, M3, Nv]
 (repeat' (first | intro _ | refine And.intro ?_ ?_))
 refine Ab _ (Te x.items (by omega)) ?_
 simp +contextual -dsimp only [↓SD, SU, simprocAttr]

theorem Aej (x : Ty) (hx : Ac.bulk x ≤ 4294967296) : Ak Tryz.prog 198 [av x, av x] (.bool true) := by
 have hb : Ac.bulk x.items + 1 ≤ 4294967296 := hx
 refine M5.F rfl (by simp; exact AVal.clean x) (Ae.bool _) ?_
 simp +contextual -dsimp only [↓SD, SU, simprocAttr, M5, Nv, beq_self_eq_true]
 refine Ab _ (TW x.items (by omega)) ?_
 simp +contextual -dsimp only [↓SD, SU, simprocAttr, beq_self_eq_true]

end Go.Proofs.YtppjinmlfcokaaaGreat
set_option linter.unusedVariables false
set_option maxRecDepth 100000
namespace Go.Proofs.YtppjinmlfcokaaaGreat
open Go.Proofs.YtppjinmlfcokaaaGreat.Av

theorem Bc : Tryz.prog.follows .mixedOrders = true := by kernel_rfl

def GF : Ir Tryz.prog 140 [(15, 7777)] [9999] 2 := ⟨_, _, Tryz.func140, Bc, by kernel_rfl, Ah [] Tryz.progTables (by conv => lhs; cbv) (by kernel_rfl)⟩
def LH : Ir Tryz.prog 150 [] [] 1 := ⟨_, _, Tryz.func150, Bc, by kernel_rfl, Ah [] Tryz.progTables (by conv => lhs; cbv) (by kernel_rfl)⟩
def LJ : Ir Tryz.prog 166 [] [] 2 := ⟨_, _, Tryz.func166, Bc, by kernel_rfl, Ah [] Tryz.progTables (by conv => lhs; cbv) (by kernel_rfl)⟩
def EA : Ir Tryz.prog 76 [(23, 7777)] [9999] 2 := ⟨_, _, Tryz.func76, Bc, by kernel_rfl, Ah [] Tryz.progTables (by conv => lhs; cbv) (by kernel_rfl)⟩
def KN : Ir Tryz.prog 89 [] [] 1 := ⟨_, _, Tryz.func89, Bc, by kernel_rfl, Ah [] Tryz.progTables (by conv => lhs; cbv) (by kernel_rfl)⟩
def KT : Ir Tryz.prog 122 [] [] 2 := ⟨_, _, Tryz.func122, Bc, by kernel_rfl, Ah [] Tryz.progTables (by conv => lhs; cbv) (by kernel_rfl)⟩
def F2 : Ir Tryz.prog 38 [(15, 7777)] [9999] 2 := ⟨_, _, Tryz.func38, Bc, by kernel_rfl, Ah [] Tryz.progTables (by conv => lhs; cbv) (by kernel_rfl)⟩
def KI : Ir Tryz.prog 45 [] [] 1 := ⟨_, _, Tryz.func45, Bc, by kernel_rfl, Ah [] Tryz.progTables (by conv => lhs; cbv) (by kernel_rfl)⟩
def KO : Ir Tryz.prog 59 [] [] 2 := ⟨_, _, Tryz.func59, Bc, by kernel_rfl, Ah [] Tryz.progTables (by conv => lhs; cbv) (by kernel_rfl)⟩
def Ez : Ir Tryz.prog 39 [(15, 7777), (21, 7777)] [9999] 2 := ⟨_, _, Tryz.func39, Bc, by kernel_rfl, Ah [] Tryz.progTables (by conv => lhs; cbv) (by kernel_rfl)⟩
def KL : Ir Tryz.prog 46 [] [] 1 := ⟨_, _, Tryz.func46, Bc, by kernel_rfl, Ah [] Tryz.progTables (by conv => lhs; cbv) (by kernel_rfl)⟩
def KR : Ir Tryz.prog 60 [] [] 2 := ⟨_, _, Tryz.func60, Bc, by kernel_rfl, Ah [] Tryz.progTables (by conv => lhs; cbv) (by kernel_rfl)⟩
def Ed : Ir Tryz.prog 14 [(23, 7777)] [9999] 2 := ⟨_, _, Tryz.func14, Bc, by kernel_rfl, Ah [] Tryz.progTables (by conv => lhs; cbv) (by kernel_rfl)⟩
def J8 : Ir Tryz.prog 20 [] [] 1 := ⟨_, _, Tryz.func20, Bc, by kernel_rfl, Ah [] Tryz.progTables (by conv => lhs; cbv) (by kernel_rfl)⟩
def Kd : Ir Tryz.prog 27 [] [] 2 := ⟨_, _, Tryz.func27, Bc, by kernel_rfl, Ah [] Tryz.progTables (by conv => lhs; cbv) (by kernel_rfl)⟩
def Ee : Ir Tryz.prog 15 [(23, 7777)] [9999] 2 := ⟨_, _, Tryz.func15, Bc, by kernel_rfl, Ah [] Tryz.progTables (by conv => lhs; cbv) (by kernel_rfl)⟩
def Kb : Ir Tryz.prog 21 [] [] 1 := ⟨_, _, Tryz.func21, Bc, by kernel_rfl, Ah [] Tryz.progTables (by conv => lhs; cbv) (by kernel_rfl)⟩
def Ft : Ir Tryz.prog 28 [] [] 2 := ⟨_, _, Tryz.func28, Bc, by kernel_rfl, Ah [] Tryz.progTables (by conv => lhs; cbv) (by kernel_rfl)⟩
def DF : Ir Tryz.prog 5 [(14, 7777), (8, 7777)] [9999] 2 := ⟨_, _, Tryz.func5, Bc, by kernel_rfl, Ah [] Tryz.progTables (by conv => lhs; cbv) (by kernel_rfl)⟩
def Ie : Ir Tryz.prog 7 [] [] 1 := ⟨_, _, Tryz.func7, Bc, by kernel_rfl, Ah [] Tryz.progTables (by conv => lhs; cbv) (by kernel_rfl)⟩
def Et : Ir Tryz.prog 9 [] [] 2 := ⟨_, _, Tryz.func9, Bc, by kernel_rfl, Ah [] Tryz.progTables (by conv => lhs; cbv) (by kernel_rfl)⟩
end Go.Proofs.YtppjinmlfcokaaaGreat
