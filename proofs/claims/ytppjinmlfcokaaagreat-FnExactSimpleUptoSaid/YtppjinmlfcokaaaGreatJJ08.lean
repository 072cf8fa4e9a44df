/-
 Bu, Pat BY ABSTRACT TEXTS: as abstract values, copies, comparisons, AM. Conditions: none. Printed by genav.py.
-/
import Derived.Test.YtppjinmlfcokaaaGreatJJ01
import Derived.Test.YtppjinmlfcokaaaGreatJJ07
import Derived.Test.YtppjinmlfcokaaaGreatProg
import Derived.Test.YtppjinmlfcokaaaGreatJAvDraw
set_option linter.unusedVariables false
set_option linter.unusedSimpArgs false
set_option maxRecDepth 100000
namespace Go.Proofs.YtppjinmlfcokaaaGreat
open Go.RowKit Go.Proofs.YtppjinmlfcokaaaGreat.Av Go.Proofs.YtppjinmlfcokaaaGreat.Ml
open Go.Proofs.YtppjinmlfcokaaaGreat.Av.AVal (av)

instance : AVal Bu := ⟨fun x => .agg [.int .i64 x.kind, .int .i64 x.n, .str x.s, .sl (x.kids.map av)], 4, fun _ => rfl, fun _ => rfl, fun x y hy => by
 simp only [AV.cells, List.mem_cons, List.not_mem_nil, or_false] at hy
 rcases hy with rfl | rfl | rfl | rfl <;> first | exact Ae.int _ _ | exact Ae.str _ | exact Ae.bool _ | exact Ao x.kids, fun _ _ => rfl, fun x y hy => by
 simp only [AV.cells, List.mem_cons, List.not_mem_nil, or_false] at hy
 rcases hy with rfl | rfl | rfl | rfl <;> rfl⟩
theorem A3 (x : Bu) : av x = .agg [.int .i64 x.kind, .int .i64 x.n, .str x.s, .sl (x.kids.map av)] := eqq rfl
instance : Gd Bu := ⟨fun {S w cs y} h => by
 obtain ⟨v3, rfl, h0, h1, h2, r3⟩ := h
 exact VRs.cons (.int _ _ h0.1 h0.2) (VRs.cons (.int _ _ h1.1 h1.2) (VRs.cons (.str _ h2) (VRs.cons (Fe r3) (VRs.nil))))⟩

instance : AVal Pat := ⟨fun x => .agg [.sl (x.nodes.map av)], 1, fun _ => rfl, fun _ => rfl, fun x y hy => by
 simp only [AV.cells, List.mem_cons, List.not_mem_nil, or_false] at hy
 subst hy; first | exact Ae.int _ _ | exact Ae.str _ | exact Ae.bool _ | exact Ao x.nodes, fun _ _ => rfl, fun x y hy => by
 simp only [AV.cells, List.mem_cons, List.not_mem_nil, or_false] at hy
 subst hy; rfl⟩
theorem Cc (x : Pat) : av x = .agg [.sl (x.nodes.map av)] := eqq rfl
instance : Gd Pat := ⟨fun {S w cs y} h => by
 obtain ⟨v0, rfl, r0⟩ := h
 exact VRs.cons (Fe r0) (VRs.nil)⟩

theorem XF (x : Bu) (n : Int) (hx : Ac.bulk x ≤ 4294967296) (h1 : -1 ≤ n) (h2 : n ≤ 4294967296) : Mj 201 [av x, .int .i64 n] := by
 have hb : Ac.bulk x.kind + Ac.bulk x.n + Ac.bulk x.s + Ac.bulk x.kids + 1 ≤ 4294967296 := hx
 have e2 : Ac.bulk x.s = x.s.size + 1 := rfl
 refine Fs.H rfl ?_
 simp +contextual -dsimp only [↓SD, SU, simprocAttr, Fs, A3]
 (repeat' (first | intro _ | refine And.intro ?_ ?_))
 all_goals first | omega | (refine Af.post [] ?_; simp +contextual -dsimp only [↓SD, SU, simprocAttr, Fs]; exact ⟨_, rfl, rfl, by omega, by omega⟩) | (refine BB [] (ND x.kids _ (by omega)  (by omega) (by omega)) (by simp +contextual -dsimp only [↓SD, SU, simprocAttr]) ?_; rintro r hp' ⟨m, rfl, rfl, hm1, hm2⟩; simp +contextual -dsimp only [↓SD, SU, simprocAttr]; (repeat' (first | intro _ | refine And.intro ?_ ?_)))
 all_goals first | omega | (refine Af.post [] ?_; simp +contextual -dsimp only [↓SD, SU, simprocAttr, Fs]; exact ⟨_, rfl, rfl, by omega, by omega⟩)

theorem XA (x : Bu) (hx : Ac.bulk x ≤ 4294967296) : Ak Tryz.prog 203 [av x] (av x) := by
 have hb : Ac.bulk x.kind + Ac.bulk x.n + Ac.bulk x.s + Ac.bulk x.kids + 1 ≤ 4294967296 := hx
 refine Ka.F rfl (by simp; exact AVal.clean x) (AVal.clean x) ?_
 simp +contextual -dsimp only [↓SD, SU, simprocAttr, Ka, A3]
 (repeat' (first | intro _ | refine And.intro ?_ ?_))
 refine Ab _ (Rm x.kids (by omega)) ?_
 simp +contextual -dsimp only [↓SD, SU, simprocAttr]

theorem Yj (x : Bu) (hx : Ac.bulk x ≤ 4294967296) : Ak Tryz.prog 207 [av x, av x] (.bool true) := by
 have hb : Ac.bulk x.kind + Ac.bulk x.n + Ac.bulk x.s + Ac.bulk x.kids + 1 ≤ 4294967296 := hx
 refine Ke.F rfl (by simp; exact AVal.clean x) (Ae.bool _) ?_
 simp +contextual -dsimp only [↓SD, SU, simprocAttr, Ke, A3, beq_self_eq_true]
 refine Ab _ (Sq x.kids (by omega)) ?_
 simp +contextual -dsimp only [↓SD, SU, simprocAttr, beq_self_eq_true]

theorem Um (l : List Bu) (n : Int) (hx : Ac.bulk l ≤ 4294967296) (h1 : -1 ≤ n) (h2 : n ≤ 4294967296) : Mj 175 [.sl (l.map av), .int .i64 n] := by
 have hl := Ag l
 refine DR.H rfl ?_
 simp +contextual -dsimp only [↓SD, SU, simprocAttr, DR, Aa]
 refine ⟨by omega, fun h => ?_, fun h => ?_⟩
 ·refine Af.post [] ?_; simp +contextual -dsimp only [↓SD, SU, simprocAttr, DR]; exact ⟨_, rfl, rfl, by omega, by omega⟩
 refine Am (X := Nat × Int) (fun x => ⟨[(0, .sl (l.map av)), (1, .int .i64 x.2), (5, .int .i64 x.1)], []⟩) (fun x => x.1 ≤ l.length ∧ 0 ≤ x.2 ∧ x.2 ≤ 4294967296) (fun x => l.length - x.1) (0, n - l.length) ⟨Nat.zero_le _, by simp only; omega, by simp only; omega⟩ (by simp +contextual -dsimp only [↓SD, SU, simprocAttr]) trivial ?_
 rintro ⟨k, m⟩ ⟨hk, hm0, hm1⟩
 simp only at hk hm0 hm1
 by_cases hlt : k < l.length
 ·have e := getD_map av l k .top hlt
  have hbk : Ac.bulk l[k] ≤ 4294967296 := by have := AG (List.getElem_mem hlt); omega
  simp +contextual -dsimp only [↓SD, SU, simprocAttr, Aa, hlt, e, A3]
  refine BB [] (XF l[k] m hbk (by omega) hm1) (by simp +contextual -dsimp only [↓SD, SU, simprocAttr]) ?_
  rintro r hp' ⟨q, rfl, rfl, hq1, hq2⟩
  simp +contextual -dsimp only [↓SD, SU, simprocAttr]
  (repeat' (first | intro _ | refine And.intro ?_ ?_))
  all_goals first | omega | (refine Af.post [] ?_; simp +contextual -dsimp only [↓SD, SU, simprocAttr, DR]; exact ⟨_, rfl, rfl, by omega, by omega⟩) | exact Af.le ⟨(k + 1, q), ⟨⟨hlt, by simp only; omega, hq2⟩, (by first | omega | (simp only; omega))⟩, rfl⟩ (by simp +contextual -dsimp only [↓SD, SU, simprocAttr, Int.natCast_add]) trivial
 ·obtain rfl : k = l.length := by omega
  simp +contextual -dsimp only [↓SD, SU, simprocAttr, Aa, Nat.lt_irrefl]
  refine Af.post [] ?_
  simp +contextual -dsimp only [↓SD, SU, simprocAttr, DR]
  exact ⟨_, rfl, rfl, by omega, by omega⟩

theorem Uj (l : List Bu) (hx : Ac.bulk l ≤ 4294967296) : Ak Tryz.prog 187 [.sl (l.map av)] (.sl (l.map av)) := by
 have hl := Ag l
 refine Jb.F rfl (by simp; exact Ao l) (Ao l) ?_
 simp +contextual -dsimp only [↓SD, SU, simprocAttr, Jb, Aa]
 refine ⟨by omega, fun v => ?_⟩
 refine Am (X := Nat) (fun k => ⟨[(0, .sl (l.map av)), (3, .row 7 v l.length), (4, .int .i64 k)], [(7, ⟨v, false, 96, 4, FI l (AV.agg [.int .i64 0, .int .i64 0, .str (bs []), .Aj]) k⟩)]⟩) (fun k => k ≤ l.length) (fun k => l.length - k) 0 (Nat.zero_le _) (by simp +contextual -dsimp only [↓SD, SU, simprocAttr]) (by simp +contextual -dsimp only [↓SD, SU, simprocAttr, Ea]) ?_
 intro k hk
 by_cases hlt : k < l.length
 ·have e := getD_map av l k .top hlt
  have e1 := Ct (AV.agg [.int .i64 0, .int .i64 0, .str (bs []), .Aj]) hk
  have e2 := EV (AV.agg [.int .i64 0, .int .i64 0, .str (bs []), .Aj]) hlt .top
  have e3 := EU (z := (AV.agg [.int .i64 0, .int .i64 0, .str (bs []), .Aj])) hlt rfl
  have hbk : Ac.bulk l[k] ≤ 4294967296 := by have := AG (List.getElem_mem hlt); omega
  rw [A3] at e3
  simp +contextual -dsimp only [↓SD, SU, simprocAttr, Aa, hlt, e, A3]
  have C := XA l[k] hbk
  rw [A3] at C
  refine Ab _ C ?_
  simp +contextual -dsimp only [↓SD, SU, simprocAttr, Aa, hlt, e, A3, e1, e2, e3]
  refine ⟨by omega, Af.le ⟨k + 1, ⟨hlt, (by first | omega | (simp only; omega))⟩, rfl⟩ (by simp +contextual -dsimp only [↓SD, SU, simprocAttr, Int.natCast_add]) (by simp +contextual -dsimp only [↓SD, SU, simprocAttr, e2, e3])⟩
 ·obtain rfl : k = l.length := by omega
  have e1 := Ct (AV.agg [.int .i64 0, .int .i64 0, .str (bs []), .Aj]) hk
  simp +contextual -dsimp only [↓SD, SU, simprocAttr, Aa, Nat.lt_irrefl, Eb, AK, List.take_length]
  try simp [List.take_of_length_le]

theorem Wp (l : List Bu) (hx : Ac.bulk l ≤ 4294967296) : Ak Tryz.prog 199 [.sl (l.map av), .sl (l.map av)] (.bool true) := by
 have hl := Ag l
 refine Jn.F rfl (by simp; exact Ao l) (Ae.bool _) ?_
 simp +contextual -dsimp only [↓SD, SU, simprocAttr, Jn, Aa]
 refine Am (X := Nat) (fun k => ⟨[(0, .sl (l.map av)), (1, .sl (l.map av)), (5, .int .i64 k)], []⟩) (fun k => k ≤ l.length) (fun k => l.length - k) 0 (Nat.zero_le _) (by simp +contextual -dsimp only [↓SD, SU, simprocAttr]) trivial ?_
 intro k hk
 by_cases hlt : k < l.length
 ·have e := getD_map av l k .top hlt
  have hbk : Ac.bulk l[k] ≤ 4294967296 := by have := AG (List.getElem_mem hlt); omega
  simp +contextual -dsimp only [↓SD, SU, simprocAttr, Aa, hlt, e, A3]
  have C := Yj l[k] hbk
  rw [A3] at C
  refine Ab _ C ?_
  simp +contextual -dsimp only [↓SD, SU, simprocAttr, Aa, hlt, e, A3]
  exact ⟨by omega, Af.le ⟨k + 1, ⟨hlt, (by first | omega | (simp only; omega))⟩, rfl⟩ (by simp +contextual -dsimp only [↓SD, SU, simprocAttr, Int.natCast_add]) trivial⟩
 ·obtain rfl : k = l.length := by omega
  simp +contextual -dsimp only [↓SD, SU, simprocAttr, Aa, Nat.lt_irrefl]

theorem Ab4 (x : Pat) (n : Int) (hx : Ac.bulk x ≤ 4294967296) (h1 : -1 ≤ n) (h2 : n ≤ 4294967296) : Mj 141 [av x, .int .i64 n] := by
 have hb : Ac.bulk x.nodes + 1 ≤ 4294967296 := hx
 refine GD.H rfl ?_
 simp +contextual -dsimp only [↓SD, SU, simprocAttr, GD, Cc]
 (repeat' (first | intro _ | refine And.intro ?_ ?_))
 all_goals first | omega | (refine Af.post [] ?_; simp +contextual -dsimp only [↓SD, SU, simprocAttr, GD]; exact ⟨_, rfl, rfl, by omega, by omega⟩) | (refine BB [] (Um x.nodes _ (by omega)  (by omega) (by omega)) (by simp +contextual -dsimp only [↓SD, SU, simprocAttr]) ?_; rintro r hp' ⟨m, rfl, rfl, hm1, hm2⟩; simp +contextual -dsimp only [↓SD, SU, simprocAttr]; (repeat' (first | intro _ | refine And.intro ?_ ?_)))
 all_goals first | omega | (refine Af.post [] ?_; simp +contextual -dsimp only [↓SD, SU, simprocAttr, GD]; exact ⟨_, rfl, rfl, by omega, by omega⟩)

theorem Ab1 (x : Pat) (hx : Ac.bulk x ≤ 4294967296) : Ak Tryz.prog 151 [av x] (av x) := by
 have hb : Ac.bulk x.nodes + 1 ≤ 4294967296 := hx
 refine LG.F rfl (by simp; exact AVal.clean x) (AVal.clean x) ?_
 simp +contextual -dsimp only [↓SD, SU, simprocAttr, LG, Cc]
 (repeat' (first | intro _ | refine And.intro ?_ ?_))
 refine Ab _ (Uj x.nodes (by omega)) ?_
 simp +contextual -dsimp only [↓SD, SU, simprocAttr]

theorem Ade (x : Pat) (hx : Ac.bulk x ≤ 4294967296) : Ak Tryz.prog 167 [av x, av x] (.bool true) := by
 have hb : Ac.bulk x.nodes + 1 ≤ 4294967296 := hx
 refine LI.F rfl (by simp; exact AVal.clean x) (Ae.bool _) ?_
 simp +contextual -dsimp only [↓SD, SU, simprocAttr, LI, Cc, beq_self_eq_true]
 refine Ab _ (Wp x.nodes (by omega)) ?_
 simp +contextual -dsimp only [↓SD, SU, simprocAttr, beq_self_eq_true]

end Go.Proofs.YtppjinmlfcokaaaGreat
set_option linter.unusedVariables false
set_option maxRecDepth 100000
namespace Go.Proofs.YtppjinmlfcokaaaGreat
open Go.Proofs.YtppjinmlfcokaaaGreat.Av

theorem IE : Tryz.prog.follows .mixedOrders = true := by kernel_rfl

def Ey : Ir Tryz.prog 78 [(23, 7777)] [9999] 2 := ⟨_, _, Tryz.func78, IE, by kernel_rfl, Ah [] Tryz.progTables (by conv => lhs; cbv) (by kernel_rfl)⟩
def KK : Ir Tryz.prog 91 [] [] 1 := ⟨_, _, Tryz.func91, IE, by kernel_rfl, Ah [] Tryz.progTables (by conv => lhs; cbv) (by kernel_rfl)⟩
def KQ : Ir Tryz.prog 124 [] [] 2 := ⟨_, _, Tryz.func124, IE, by kernel_rfl, Ah [] Tryz.progTables (by conv => lhs; cbv) (by kernel_rfl)⟩
end Go.Proofs.YtppjinmlfcokaaaGreat
set_option linter.unusedVariables false
set_option linter.unusedSimpArgs false
set_option maxRecDepth 100000
namespace Go.Proofs.YtppjinmlfcokaaaGreat
open Go.RowKit Go.Proofs.YtppjinmlfcokaaaGreat.Av Go.Proofs.YtppjinmlfcokaaaGreat.Ml
open Go.Proofs.YtppjinmlfcokaaaGreat.Av.AVal (av)

theorem Ro (l : List Pat) (n : Int) (hx : Ac.bulk l ≤ 4294967296) (h1 : -1 ≤ n) (h2 : n ≤ 4294967296) : Mj 78 [.sl (l.map av), .int .i64 n] := by
 have hl := Ag l
 refine Ey.H rfl ?_
 simp +contextual -dsimp only [↓SD, SU, simprocAttr, Ey, Aa]
 refine ⟨by omega, fun h => ?_, fun h => ?_⟩
 ·refine Af.post [] ?_; simp +contextual -dsimp only [↓SD, SU, simprocAttr, Ey]; exact ⟨_, rfl, rfl, by omega, by omega⟩
 refine Am (X := Nat × Int) (fun x => ⟨[(0, .sl (l.map av)), (1, .int .i64 x.2), (5, .int .i64 x.1)], []⟩) (fun x => x.1 ≤ l.length ∧ 0 ≤ x.2 ∧ x.2 ≤ 4294967296) (fun x => l.length - x.1) (0, n - l.length) ⟨Nat.zero_le _, by simp only; omega, by simp only; omega⟩ (by simp +contextual -dsimp only [↓SD, SU, simprocAttr]) trivial ?_
 rintro ⟨k, m⟩ ⟨hk, hm0, hm1⟩
 simp only at hk hm0 hm1
 by_cases hlt : k < l.length
 ·have e := getD_map av l k .top hlt
  have hbk : Ac.bulk l[k] ≤ 4294967296 := by have := AG (List.getElem_mem hlt); omega
  simp +contextual -dsimp only [↓SD, SU, simprocAttr, Aa, hlt, e, Cc]
  refine BB [] (Ab4 l[k] m hbk (by omega) hm1) (by simp +contextual -dsimp only [↓SD, SU, simprocAttr]) ?_
  rintro r hp' ⟨q, rfl, rfl, hq1, hq2⟩
  simp +contextual -dsimp only [↓SD, SU, simprocAttr]
  (repeat' (first | intro _ | refine And.intro ?_ ?_))
  all_goals first | omega | (refine Af.post [] ?_; simp +contextual -dsimp only [↓SD, SU, simprocAttr, Ey]; exact ⟨_, rfl, rfl, by omega, by omega⟩) | exact Af.le ⟨(k + 1, q), ⟨⟨hlt, by simp only; omega, hq2⟩, (by first | omega | (simp only; omega))⟩, rfl⟩ (by simp +contextual -dsimp only [↓SD, SU, simprocAttr, Int.natCast_add]) trivial
 ·obtain rfl : k = l.length := by omega
  simp +contextual -dsimp only [↓SD, SU, simprocAttr, Aa, Nat.lt_irrefl]
  refine Af.post [] ?_
  simp +contextual -dsimp only [↓SD, SU, simprocAttr, Ey]
  exact ⟨_, rfl, rfl, by omega, by omega⟩

theorem AaS (l : List Pat) (hx : Ac.bulk l ≤ 4294967296) : Ak Tryz.prog 91 [.sl (l.map av)] (.sl (l.map av)) := by
 have hl := Ag l
 refine KK.F rfl (by simp; exact Ao l) (Ao l) ?_
 simp +contextual -dsimp only [↓SD, SU, simprocAttr, KK, Aa]
 refine ⟨by omega, fun v => ?_⟩
 refine Am (X := Nat) (fun k => ⟨[(0, .sl (l.map av)), (3, .row 7 v l.length), (4, .int .i64 k)], [(7, ⟨v, false, 86, 1, FI l (AV.agg [.Aj]) k⟩)]⟩) (fun k => k ≤ l.length) (fun k => l.length - k) 0 (Nat.zero_le _) (by simp +contextual -dsimp only [↓SD, SU, simprocAttr]) (by simp +contextual -dsimp only [↓SD, SU, simprocAttr, Ea]) ?_
 intro k hk
 by_cases hlt : k < l.length
 ·have e := getD_map av l k .top hlt
  have e1 := Ct (AV.agg [.Aj]) hk
  have e2 := EV (AV.agg [.Aj]) hlt .top
  have e3 := EU (z := (AV.agg [.Aj])) hlt rfl
  have hbk : Ac.bulk l[k] ≤ 4294967296 := by have := AG (List.getElem_mem hlt); omega
  rw [Cc] at e3
  simp +contextual -dsimp only [↓SD, SU, simprocAttr, Aa, hlt, e, Cc]
  have C := Ab1 l[k] hbk
  rw [Cc] at C
  refine Ab _ C ?_
  simp +contextual -dsimp only [↓SD, SU, simprocAttr, Aa, hlt, e, Cc, e1, e2, e3]
  refine ⟨by omega, Af.le ⟨k + 1, ⟨hlt, (by first | omega | (simp only; omega))⟩, rfl⟩ (by simp +contextual -dsimp only [↓SD, SU, simprocAttr, Int.natCast_add]) (by simp +contextual -dsimp only [↓SD, SU, simprocAttr, e2, e3])⟩
 ·obtain rfl : k = l.length := by omega
  have e1 := Ct (AV.agg [.Aj]) hk
  simp +contextual -dsimp only [↓SD, SU, simprocAttr, Aa, Nat.lt_irrefl, Eb, AK, List.take_length]
  try simp [List.take_of_length_le]

theorem Aby (l : List Pat) (hx : Ac.bulk l ≤ 4294967296) : Ak Tryz.prog 124 [.sl (l.map av), .sl (l.map av)] (.bool true) := by
 have hl := Ag l
 refine KQ.F rfl (by simp; exact Ao l) (Ae.bool _) ?_
 simp +contextual -dsimp only [↓SD, SU, simprocAttr, KQ, Aa]
 refine Am (X := Nat) (fun k => ⟨[(0, .sl (l.map av)), (1, .sl (l.map av)), (5, .int .i64 k)], []⟩) (fun k => k ≤ l.length) (fun k => l.length - k) 0 (Nat.zero_le _) (by simp +contextual -dsimp only [↓SD, SU, simprocAttr]) trivial ?_
 intro k hk
 by_cases hlt : k < l.length
 ·have e := getD_map av l k .top hlt
  have hbk : Ac.bulk l[k] ≤ 4294967296 := by have := AG (List.getElem_mem hlt); omega
  simp +contextual -dsimp only [↓SD, SU, simprocAttr, Aa, hlt, e, Cc]
  have C := Ade l[k] hbk
  rw [Cc] at C
  refine Ab _ C ?_
  simp +contextual -dsimp only [↓SD, SU, simprocAttr, Aa, hlt, e, Cc]
  exact ⟨by omega, Af.le ⟨k + 1, ⟨hlt, (by first | omega | (simp only; omega))⟩, rfl⟩ (by simp +contextual -dsimp only [↓SD, SU, simprocAttr, Int.natCast_add]) trivial⟩
 ·obtain rfl : k = l.length := by omega
  simp +contextual -dsimp only [↓SD, SU, simprocAttr, Aa, Nat.lt_irrefl]

end Go.Proofs.YtppjinmlfcokaaaGreat
set_option linter.unusedVariables false
set_option maxRecDepth 100000
namespace Go.Proofs.YtppjinmlfcokaaaGreat
open Go.Proofs.YtppjinmlfcokaaaGreat.Av

theorem DH : Tryz.prog.follows .mixedOrders = true := by kernel_rfl

def Gq : Ir Tryz.prog 208 [] [9999] 2 := ⟨_, _, Tryz.func208, DH, by kernel_rfl, Ah [] Tryz.progTables (by conv => lhs; cbv) (by kernel_rfl)⟩
def I9 : Ir Tryz.prog 209 [] [] 1 := ⟨_, _, Tryz.func209, DH, by kernel_rfl, Ah [] Tryz.progTables (by conv => lhs; cbv) (by kernel_rfl)⟩
def Jm : Ir Tryz.prog 210 [] [] 2 := ⟨_, _, Tryz.func210, DH, by kernel_rfl, Ah [] Tryz.progTables (by conv => lhs; cbv) (by kernel_rfl)⟩
def DE : Ir Tryz.prog 200 [(23, 7777)] [9999] 2 := ⟨_, _, Tryz.func200, DH, by kernel_rfl, Ah [] Tryz.progTables (by conv => lhs; cbv) (by kernel_rfl)⟩
def Ic : Ir Tryz.prog 202 [] [] 1 := ⟨_, _, Tryz.func202, DH, by kernel_rfl, Ah [] Tryz.progTables (by conv => lhs; cbv) (by kernel_rfl)⟩
def Im : Ir Tryz.prog 206 [] [] 2 := ⟨_, _, Tryz.func206, DH, by kernel_rfl, Ah [] Tryz.progTables (by conv => lhs; cbv) (by kernel_rfl)⟩
def He : Ir Tryz.prog 174 [(8, 7777)] [9999] 2 := ⟨_, _, Tryz.func174, DH, by kernel_rfl, Ah [] Tryz.progTables (by conv => lhs; cbv) (by kernel_rfl)⟩
def M3 : Ir Tryz.prog 186 [] [] 1 := ⟨_, _, Tryz.func186, DH, by kernel_rfl, Ah [] Tryz.progTables (by conv => lhs; cbv) (by kernel_rfl)⟩
def M5 : Ir Tryz.prog 198 [] [] 2 := ⟨_, _, Tryz.func198, DH, by kernel_rfl, Ah [] Tryz.progTables (by conv => lhs; cbv) (by kernel_rfl)⟩
end Go.Proofs.YtppjinmlfcokaaaGreat
