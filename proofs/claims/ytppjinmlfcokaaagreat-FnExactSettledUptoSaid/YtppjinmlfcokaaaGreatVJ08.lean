/-
 Bg, Pat BY ABSTRACT TEXTS: as abstract values, copies, comparisons, AJ. Conditions: none. Printed by genav.py.
-/
import Derived.Test.YtppjinmlfcokaaaGreatVJ01
import Derived.Test.YtppjinmlfcokaaaGreatVJ07
import Derived.Test.YtppjinmlfcokaaaGreatProg
import Derived.Test.YtppjinmlfcokaaaGreatVAvDraw
set_option linter.unusedVariables false
set_option linter.unusedSimpArgs false
set_option maxRecDepth 100000
namespace Go.Proofs.YtppjinmlfcokaaaGreat
open Go.RowKit Go.Proofs.YtppjinmlfcokaaaGreat.Av Go.Proofs.YtppjinmlfcokaaaGreat.Ml
open Go.Proofs.YtppjinmlfcokaaaGreat.Av.AVal (av)

instance : AVal Bg := ⟨fun x => .agg [.int .i64 x.kind, .int .i64 x.n, .str x.s, .sl (x.kids.map av)], 4, fun _ => rfl, fun _ => rfl, fun x y hy => by
 simp only [AV.cells, List.mem_cons, List.not_mem_nil, or_false] at hy
 rcases hy with rfl | rfl | rfl | rfl <;> first | exact Ad.int _ _ | exact Ad.str _ | exact Ad.bool _ | exact Ak x.kids, fun _ _ => rfl, fun x y hy => by
 simp only [AV.cells, List.mem_cons, List.not_mem_nil, or_false] at hy
 rcases hy with rfl | rfl | rfl | rfl <;> rfl⟩
theorem AU (x : Bg) : av x = .agg [.int .i64 x.kind, .int .i64 x.n, .str x.s, .sl (x.kids.map av)] := eqq rfl
instance : Ge Bg := ⟨fun {S w cs y} h => by
 obtain ⟨v3, rfl, h0, h1, h2, r3⟩ := h
 exact VRs.cons (.int _ _ h0.1 h0.2) (VRs.cons (.int _ _ h1.1 h1.2) (VRs.cons (.str _ h2) (VRs.cons (Fi r3) (VRs.nil))))⟩

instance : AVal Pat := ⟨fun x => .agg [.sl (x.nodes.map av)], 1, fun _ => rfl, fun _ => rfl, fun x y hy => by
 simp only [AV.cells, List.mem_cons, List.not_mem_nil, or_false] at hy
 subst hy; first | exact Ad.int _ _ | exact Ad.str _ | exact Ad.bool _ | exact Ak x.nodes, fun _ _ => rfl, fun x y hy => by
 simp only [AV.cells, List.mem_cons, List.not_mem_nil, or_false] at hy
 subst hy; rfl⟩
theorem B7 (x : Pat) : av x = .agg [.sl (x.nodes.map av)] := eqq rfl
instance : Ge Pat := ⟨fun {S w cs y} h => by
 obtain ⟨v0, rfl, r0⟩ := h
 exact VRs.cons (Fi r0) (VRs.nil)⟩

theorem XH (x : Bg) (n : Int) (hx : Ac.bulk x ≤ 4294967296) (h1 : -1 ≤ n) (h2 : n ≤ 4294967296) : L1 201 [av x, .int .i64 n] := by
 have hb : Ac.bulk x.kind + Ac.bulk x.n + Ac.bulk x.s + Ac.bulk x.kids + 1 ≤ 4294967296 := hx
 have e2 : Ac.bulk x.s = x.s.size + 1 := rfl
 refine Fs.H rfl ?_
 simp +contextual -dsimp only [↓SD, SU, simprocAttr, Fs, AU]
 (repeat' (first | intro _ | refine And.intro ?_ ?_))
 all_goals first | omega | (refine Af.post [] ?_; simp +contextual -dsimp only [↓SD, SU, simprocAttr, Fs]; exact ⟨_, rfl, rfl, by omega, by omega⟩) | (refine Bx [] (Nl x.kids _ (by omega)  (by omega) (by omega)) (by simp +contextual -dsimp only [↓SD, SU, simprocAttr]) ?_; rintro r hp' ⟨m, rfl, rfl, hm1, hm2⟩; simp +contextual -dsimp only [↓SD, SU, simprocAttr]; (repeat' (first | intro _ | refine And.intro ?_ ?_)))
 all_goals first | omega | (refine Af.post [] ?_; simp +contextual -dsimp only [↓SD, SU, simprocAttr, Fs]; exact ⟨_, rfl, rfl, by omega, by omega⟩)

theorem XE (x : Bg) (hx : Ac.bulk x ≤ 4294967296) : Ah Tryz.prog 203 [av x] (av x) := by
 have hb : Ac.bulk x.kind + Ac.bulk x.n + Ac.bulk x.s + Ac.bulk x.kids + 1 ≤ 4294967296 := hx
 refine JM.F rfl (by simp; exact AVal.clean x) (AVal.clean x) ?_
 simp +contextual -dsimp only [↓SD, SU, simprocAttr, JM, AU]
 (repeat' (first | intro _ | refine And.intro ?_ ?_))
 refine Aa _ (Ri x.kids (by omega)) ?_
 simp +contextual -dsimp only [↓SD, SU, simprocAttr]

theorem Yx (x : Bg) (hx : Ac.bulk x ≤ 4294967296) : Ah Tryz.prog 207 [av x, av x] (.bool true) := by
 have hb : Ac.bulk x.kind + Ac.bulk x.n + Ac.bulk x.s + Ac.bulk x.kids + 1 ≤ 4294967296 := hx
 refine JP.F rfl (by simp; exact AVal.clean x) (Ad.bool _) ?_
 simp +contextual -dsimp only [↓SD, SU, simprocAttr, JP, AU, beq_self_eq_true]
 refine Aa _ (Sq x.kids (by omega)) ?_
 simp +contextual -dsimp only [↓SD, SU, simprocAttr, beq_self_eq_true]

theorem Un (l : List Bg) (n : Int) (hx : Ac.bulk l ≤ 4294967296) (h1 : -1 ≤ n) (h2 : n ≤ 4294967296) : L1 175 [.sl (l.map av), .int .i64 n] := by
 have hl := Ai l
 refine D3.H rfl ?_
 simp +contextual -dsimp only [↓SD, SU, simprocAttr, D3, Ab]
 refine ⟨by omega, fun h => ?_, fun h => ?_⟩
 ·refine Af.post [] ?_; simp +contextual -dsimp only [↓SD, SU, simprocAttr, D3]; exact ⟨_, rfl, rfl, by omega, by omega⟩
 refine Am (X := Nat × Int) (fun x => ⟨[(0, .sl (l.map av)), (1, .int .i64 x.2), (5, .int .i64 x.1)], []⟩) (fun x => x.1 ≤ l.length ∧ 0 ≤ x.2 ∧ x.2 ≤ 4294967296) (fun x => l.length - x.1) (0, n - l.length) ⟨Nat.zero_le _, by simp only; omega, by simp only; omega⟩ (by simp +contextual -dsimp only [↓SD, SU, simprocAttr]) trivial ?_
 rintro ⟨k, m⟩ ⟨hk, hm0, hm1⟩
 simp only at hk hm0 hm1
 by_cases hlt : k < l.length
 ·have e := getD_map av l k .top hlt
  have hbk : Ac.bulk l[k] ≤ 4294967296 := by have := Au (List.getElem_mem hlt); omega
  simp +contextual -dsimp only [↓SD, SU, simprocAttr, Ab, hlt, e, AU]
  refine Bx [] (XH l[k] m hbk (by omega) hm1) (by simp +contextual -dsimp only [↓SD, SU, simprocAttr]) ?_
  rintro r hp' ⟨q, rfl, rfl, hq1, hq2⟩
  simp +contextual -dsimp only [↓SD, SU, simprocAttr]
  (repeat' (first | intro _ | refine And.intro ?_ ?_))
  all_goals first | omega | (refine Af.post [] ?_; simp +contextual -dsimp only [↓SD, SU, simprocAttr, D3]; exact ⟨_, rfl, rfl, by omega, by omega⟩) | exact Af.le ⟨(k + 1, q), ⟨⟨hlt, by simp only; omega, hq2⟩, (by first | omega | (simp only; omega))⟩, rfl⟩ (by simp +contextual -dsimp only [↓SD, SU, simprocAttr, Int.natCast_add]) trivial
 ·obtain rfl : k = l.length := by omega
  simp +contextual -dsimp only [↓SD, SU, simprocAttr, Ab, Nat.lt_irrefl]
  refine Af.post [] ?_
  simp +contextual -dsimp only [↓SD, SU, simprocAttr, D3]
  exact ⟨_, rfl, rfl, by omega, by omega⟩

theorem Ul (l : List Bg) (hx : Ac.bulk l ≤ 4294967296) : Ah Tryz.prog 187 [.sl (l.map av)] (.sl (l.map av)) := by
 have hl := Ai l
 refine IZ.F rfl (by simp; exact Ak l) (Ak l) ?_
 simp +contextual -dsimp only [↓SD, SU, simprocAttr, IZ, Ab]
 refine ⟨by omega, fun v => ?_⟩
 refine Am (X := Nat) (fun k => ⟨[(0, .sl (l.map av)), (3, .row 7 v l.length), (4, .int .i64 k)], [(7, ⟨v, false, 96, 4, Gi l (AV.agg [.int .i64 0, .int .i64 0, .str (bs []), .An]) k⟩)]⟩) (fun k => k ≤ l.length) (fun k => l.length - k) 0 (Nat.zero_le _) (by simp +contextual -dsimp only [↓SD, SU, simprocAttr]) (by simp +contextual -dsimp only [↓SD, SU, simprocAttr, FA]) ?_
 intro k hk
 by_cases hlt : k < l.length
 ·have e := getD_map av l k .top hlt
  have e1 := Dg (AV.agg [.int .i64 0, .int .i64 0, .str (bs []), .An]) hk
  have e2 := Gw (AV.agg [.int .i64 0, .int .i64 0, .str (bs []), .An]) hlt .top
  have e3 := Gv (z := (AV.agg [.int .i64 0, .int .i64 0, .str (bs []), .An])) hlt rfl
  have hbk : Ac.bulk l[k] ≤ 4294967296 := by have := Au (List.getElem_mem hlt); omega
  rw [AU] at e3
  simp +contextual -dsimp only [↓SD, SU, simprocAttr, Ab, hlt, e, AU]
  have C := XE l[k] hbk
  rw [AU] at C
  refine Aa _ C ?_
  simp +contextual -dsimp only [↓SD, SU, simprocAttr, Ab, hlt, e, AU, e1, e2, e3]
  refine ⟨by omega, Af.le ⟨k + 1, ⟨hlt, (by first | omega | (simp only; omega))⟩, rfl⟩ (by simp +contextual -dsimp only [↓SD, SU, simprocAttr, Int.natCast_add]) (by simp +contextual -dsimp only [↓SD, SU, simprocAttr, e2, e3])⟩
 ·obtain rfl : k = l.length := by omega
  have e1 := Dg (AV.agg [.int .i64 0, .int .i64 0, .str (bs []), .An]) hk
  simp +contextual -dsimp only [↓SD, SU, simprocAttr, Ab, Nat.lt_irrefl, FB, AB, List.take_length]
  try simp [List.take_of_length_le]

theorem Wu (l : List Bg) (hx : Ac.bulk l ≤ 4294967296) : Ah Tryz.prog 199 [.sl (l.map av), .sl (l.map av)] (.bool true) := by
 have hl := Ai l
 refine I1.F rfl (by simp; exact Ak l) (Ad.bool _) ?_
 simp +contextual -dsimp only [↓SD, SU, simprocAttr, I1, Ab]
 refine Am (X := Nat) (fun k => ⟨[(0, .sl (l.map av)), (1, .sl (l.map av)), (5, .int .i64 k)], []⟩) (fun k => k ≤ l.length) (fun k => l.length - k) 0 (Nat.zero_le _) (by simp +contextual -dsimp only [↓SD, SU, simprocAttr]) trivial ?_
 intro k hk
 by_cases hlt : k < l.length
 ·have e := getD_map av l k .top hlt
  have hbk : Ac.bulk l[k] ≤ 4294967296 := by have := Au (List.getElem_mem hlt); omega
  simp +contextual -dsimp only [↓SD, SU, simprocAttr, Ab, hlt, e, AU]
  have C := Yx l[k] hbk
  rw [AU] at C
  refine Aa _ C ?_
  simp +contextual -dsimp only [↓SD, SU, simprocAttr, Ab, hlt, e, AU]
  exact ⟨by omega, Af.le ⟨k + 1, ⟨hlt, (by first | omega | (simp only; omega))⟩, rfl⟩ (by simp +contextual -dsimp only [↓SD, SU, simprocAttr, Int.natCast_add]) trivial⟩
 ·obtain rfl : k = l.length := by omega
  simp +contextual -dsimp only [↓SD, SU, simprocAttr, Ab, Nat.lt_irrefl]

theorem Acv (x : Pat) (n : Int) (hx : Ac.bulk x ≤ 4294967296) (h1 : -1 ≤ n) (h2 : n ≤ 4294967296) : L1 141 [av x, .int .i64 n] := by
 have hb : Ac.bulk x.nodes + 1 ≤ 4294967296 := hx
 refine GC.H rfl ?_
 simp +contextual -dsimp only [↓SD, SU, simprocAttr, GC, B7]
 (repeat' (first | intro _ | refine And.intro ?_ ?_))
 all_goals first | omega | (refine Af.post [] ?_; simp +contextual -dsimp only [↓SD, SU, simprocAttr, GC]; exact ⟨_, rfl, rfl, by omega, by omega⟩) | (refine Bx [] (Un x.nodes _ (by omega)  (by omega) (by omega)) (by simp +contextual -dsimp only [↓SD, SU, simprocAttr]) ?_; rintro r hp' ⟨m, rfl, rfl, hm1, hm2⟩; simp +contextual -dsimp only [↓SD, SU, simprocAttr]; (repeat' (first | intro _ | refine And.intro ?_ ?_)))
 all_goals first | omega | (refine Af.post [] ?_; simp +contextual -dsimp only [↓SD, SU, simprocAttr, GC]; exact ⟨_, rfl, rfl, by omega, by omega⟩)

theorem Acr (x : Pat) (hx : Ac.bulk x ≤ 4294967296) : Ah Tryz.prog 151 [av x] (av x) := by
 have hb : Ac.bulk x.nodes + 1 ≤ 4294967296 := hx
 refine Lm.F rfl (by simp; exact AVal.clean x) (AVal.clean x) ?_
 simp +contextual -dsimp only [↓SD, SU, simprocAttr, Lm, B7]
 (repeat' (first | intro _ | refine And.intro ?_ ?_))
 refine Aa _ (Ul x.nodes (by omega)) ?_
 simp +contextual -dsimp only [↓SD, SU, simprocAttr]

theorem AdJ (x : Pat) (hx : Ac.bulk x ≤ 4294967296) : Ah Tryz.prog 167 [av x, av x] (.bool true) := by
 have hb : Ac.bulk x.nodes + 1 ≤ 4294967296 := hx
 refine Lo.F rfl (by simp; exact AVal.clean x) (Ad.bool _) ?_
 simp +contextual -dsimp only [↓SD, SU, simprocAttr, Lo, B7, beq_self_eq_true]
 refine Aa _ (Wu x.nodes (by omega)) ?_
 simp +contextual -dsimp only [↓SD, SU, simprocAttr, beq_self_eq_true]

end Go.Proofs.YtppjinmlfcokaaaGreat
set_option linter.unusedVariables false
set_option maxRecDepth 100000
namespace Go.Proofs.YtppjinmlfcokaaaGreat
open Go.Proofs.YtppjinmlfcokaaaGreat.Av

theorem IB : Tryz.prog.follows .mixedOrders = true := by kernel_rfl

def EE : Ir Tryz.prog 78 [(23, 7777)] [9999] 2 := ⟨_, _, Tryz.func78, IB, by kernel_rfl, Aj [] Tryz.progTables (by conv => lhs; cbv) (by kernel_rfl)⟩
def Kr : Ir Tryz.prog 91 [] [] 1 := ⟨_, _, Tryz.func91, IB, by kernel_rfl, Aj [] Tryz.progTables (by conv => lhs; cbv) (by kernel_rfl)⟩
def Kw : Ir Tryz.prog 124 [] [] 2 := ⟨_, _, Tryz.func124, IB, by kernel_rfl, Aj [] Tryz.progTables (by conv => lhs; cbv) (by kernel_rfl)⟩
end Go.Proofs.YtppjinmlfcokaaaGreat
set_option linter.unusedVariables false
set_option linter.unusedSimpArgs false
set_option maxRecDepth 100000
namespace Go.Proofs.YtppjinmlfcokaaaGreat
open Go.RowKit Go.Proofs.YtppjinmlfcokaaaGreat.Av Go.Proofs.YtppjinmlfcokaaaGreat.Ml
open Go.Proofs.YtppjinmlfcokaaaGreat.Av.AVal (av)

theorem Rj (l : List Pat) (n : Int) (hx : Ac.bulk l ≤ 4294967296) (h1 : -1 ≤ n) (h2 : n ≤ 4294967296) : L1 78 [.sl (l.map av), .int .i64 n] := by
 have hl := Ai l
 refine EE.H rfl ?_
 simp +contextual -dsimp only [↓SD, SU, simprocAttr, EE, Ab]
 refine ⟨by omega, fun h => ?_, fun h => ?_⟩
 ·refine Af.post [] ?_; simp +contextual -dsimp only [↓SD, SU, simprocAttr, EE]; exact ⟨_, rfl, rfl, by omega, by omega⟩
 refine Am (X := Nat × Int) (fun x => ⟨[(0, .sl (l.map av)), (1, .int .i64 x.2), (5, .int .i64 x.1)], []⟩) (fun x => x.1 ≤ l.length ∧ 0 ≤ x.2 ∧ x.2 ≤ 4294967296) (fun x => l.length - x.1) (0, n - l.length) ⟨Nat.zero_le _, by simp only; omega, by simp only; omega⟩ (by simp +contextual -dsimp only [↓SD, SU, simprocAttr]) trivial ?_
 rintro ⟨k, m⟩ ⟨hk, hm0, hm1⟩
 simp only at hk hm0 hm1
 by_cases hlt : k < l.length
 ·have e := getD_map av l k .top hlt
  have hbk : Ac.bulk l[k] ≤ 4294967296 := by have := Au (List.getElem_mem hlt); omega
  simp +contextual -dsimp only [↓SD, SU, simprocAttr, Ab, hlt, e, B7]
  refine Bx [] (Acv l[k] m hbk (by omega) hm1) (by simp +contextual -dsimp only [↓SD, SU, simprocAttr]) ?_
  rintro r hp' ⟨q, rfl, rfl, hq1, hq2⟩
  simp +contextual -dsimp only [↓SD, SU, simprocAttr]
  (repeat' (first | intro _ | refine And.intro ?_ ?_))
  all_goals first | omega | (refine Af.post [] ?_; simp +contextual -dsimp only [↓SD, SU, simprocAttr, EE]; exact ⟨_, rfl, rfl, by omega, by omega⟩) | exact Af.le ⟨(k + 1, q), ⟨⟨hlt, by simp only; omega, hq2⟩, (by first | omega | (simp only; omega))⟩, rfl⟩ (by simp +contextual -dsimp only [↓SD, SU, simprocAttr, Int.natCast_add]) trivial
 ·obtain rfl : k = l.length := by omega
  simp +contextual -dsimp only [↓SD, SU, simprocAttr, Ab, Nat.lt_irrefl]
  refine Af.post [] ?_
  simp +contextual -dsimp only [↓SD, SU, simprocAttr, EE]
  exact ⟨_, rfl, rfl, by omega, by omega⟩

theorem Abh (l : List Pat) (hx : Ac.bulk l ≤ 4294967296) : Ah Tryz.prog 91 [.sl (l.map av)] (.sl (l.map av)) := by
 have hl := Ai l
 refine Kr.F rfl (by simp; exact Ak l) (Ak l) ?_
 simp +contextual -dsimp only [↓SD, SU, simprocAttr, Kr, Ab]
 refine ⟨by omega, fun v => ?_⟩
 refine Am (X := Nat) (fun k => ⟨[(0, .sl (l.map av)), (3, .row 7 v l.length), (4, .int .i64 k)], [(7, ⟨v, false, 86, 1, Gi l (AV.agg [.An]) k⟩)]⟩) (fun k => k ≤ l.length) (fun k => l.length - k) 0 (Nat.zero_le _) (by simp +contextual -dsimp only [↓SD, SU, simprocAttr]) (by simp +contextual -dsimp only [↓SD, SU, simprocAttr, FA]) ?_
 intro k hk
 by_cases hlt : k < l.length
 ·have e := getD_map av l k .top hlt
  have e1 := Dg (AV.agg [.An]) hk
  have e2 := Gw (AV.agg [.An]) hlt .top
  have e3 := Gv (z := (AV.agg [.An])) hlt rfl
  have hbk : Ac.bulk l[k] ≤ 4294967296 := by have := Au (List.getElem_mem hlt); omega
  rw [B7] at e3
  simp +contextual -dsimp only [↓SD, SU, simprocAttr, Ab, hlt, e, B7]
  have C := Acr l[k] hbk
  rw [B7] at C
  refine Aa _ C ?_
  simp +contextual -dsimp only [↓SD, SU, simprocAttr, Ab, hlt, e, B7, e1, e2, e3]
  refine ⟨by omega, Af.le ⟨k + 1, ⟨hlt, (by first | omega | (simp only; omega))⟩, rfl⟩ (by simp +contextual -dsimp only [↓SD, SU, simprocAttr, Int.natCast_add]) (by simp +contextual -dsimp only [↓SD, SU, simprocAttr, e2, e3])⟩
 ·obtain rfl : k = l.length := by omega
  have e1 := Dg (AV.agg [.An]) hk
  simp +contextual -dsimp only [↓SD, SU, simprocAttr, Ab, Nat.lt_irrefl, FB, AB, List.take_length]
  try simp [List.take_of_length_le]

theorem AbW (l : List Pat) (hx : Ac.bulk l ≤ 4294967296) : Ah Tryz.prog 124 [.sl (l.map av), .sl (l.map av)] (.bool true) := by
 have hl := Ai l
 refine Kw.F rfl (by simp; exact Ak l) (Ad.bool _) ?_
 simp +contextual -dsimp only [↓SD, SU, simprocAttr, Kw, Ab]
 refine Am (X := Nat) (fun k => ⟨[(0, .sl (l.map av)), (1, .sl (l.map av)), (5, .int .i64 k)], []⟩) (fun k => k ≤ l.length) (fun k => l.length - k) 0 (Nat.zero_le _) (by simp +contextual -dsimp only [↓SD, SU, simprocAttr]) trivial ?_
 intro k hk
 by_cases hlt : k < l.length
 ·have e := getD_map av l k .top hlt
  have hbk : Ac.bulk l[k] ≤ 4294967296 := by have := Au (List.getElem_mem hlt); omega
  simp +contextual -dsimp only [↓SD, SU, simprocAttr, Ab, hlt, e, B7]
  have C := AdJ l[k] hbk
  rw [B7] at C
  refine Aa _ C ?_
  simp +contextual -dsimp only [↓SD, SU, simprocAttr, Ab, hlt, e, B7]
  exact ⟨by omega, Af.le ⟨k + 1, ⟨hlt, (by first | omega | (simp only; omega))⟩, rfl⟩ (by simp +contextual -dsimp only [↓SD, SU, simprocAttr, Int.natCast_add]) trivial⟩
 ·obtain rfl : k = l.length := by omega
  simp +contextual -dsimp only [↓SD, SU, simprocAttr, Ab, Nat.lt_irrefl]

end Go.Proofs.YtppjinmlfcokaaaGreat
set_option linter.unusedVariables false
set_option maxRecDepth 100000
namespace Go.Proofs.YtppjinmlfcokaaaGreat
open Go.Proofs.YtppjinmlfcokaaaGreat.Av

theorem DO : Tryz.prog.follows .mixedOrders = true := by kernel_rfl

def Gp : Ir Tryz.prog 208 [] [9999] 2 := ⟨_, _, Tryz.func208, DO, by kernel_rfl, Aj [] Tryz.progTables (by conv => lhs; cbv) (by kernel_rfl)⟩
def IY : Ir Tryz.prog 209 [] [] 1 := ⟨_, _, Tryz.func209, DO, by kernel_rfl, Aj [] Tryz.progTables (by conv => lhs; cbv) (by kernel_rfl)⟩
def I0 : Ir Tryz.prog 210 [] [] 2 := ⟨_, _, Tryz.func210, DO, by kernel_rfl, Aj [] Tryz.progTables (by conv => lhs; cbv) (by kernel_rfl)⟩
def DL : Ir Tryz.prog 200 [(23, 7777)] [9999] 2 := ⟨_, _, Tryz.func200, DO, by kernel_rfl, Aj [] Tryz.progTables (by conv => lhs; cbv) (by kernel_rfl)⟩
def Ib : Ir Tryz.prog 202 [] [] 1 := ⟨_, _, Tryz.func202, DO, by kernel_rfl, Aj [] Tryz.progTables (by conv => lhs; cbv) (by kernel_rfl)⟩
def Ie : Ir Tryz.prog 206 [] [] 2 := ⟨_, _, Tryz.func206, DO, by kernel_rfl, Aj [] Tryz.progTables (by conv => lhs; cbv) (by kernel_rfl)⟩
def Hl : Ir Tryz.prog 174 [(8, 7777)] [9999] 2 := ⟨_, _, Tryz.func174, DO, by kernel_rfl, Aj [] Tryz.progTables (by conv => lhs; cbv) (by kernel_rfl)⟩
def ML : Ir Tryz.prog 186 [] [] 1 := ⟨_, _, Tryz.func186, DO, by kernel_rfl, Aj [] Tryz.progTables (by conv => lhs; cbv) (by kernel_rfl)⟩
def MM : Ir Tryz.prog 198 [] [] 2 := ⟨_, _, Tryz.func198, DO, by kernel_rfl, Aj [] Tryz.progTables (by conv => lhs; cbv) (by kernel_rfl)⟩
end Go.Proofs.YtppjinmlfcokaaaGreat
set_option linter.unusedVariables false
set_option linter.unusedSimpArgs false
set_option maxRecDepth 100000
namespace Go.Proofs.YtppjinmlfcokaaaGreat
open Go.RowKit Go.Proofs.YtppjinmlfcokaaaGreat.Av Go.Proofs.YtppjinmlfcokaaaGreat.Ml
open Go.Proofs.YtppjinmlfcokaaaGreat.Av.AVal (av)

instance : AVal AY := ⟨fun x => .agg [.int .i64 x.var, .str x.name, .int .i64 x.arity], 3, fun _ => rfl, fun _ => rfl, fun x y hy => by
 simp only [AV.cells, List.mem_cons, List.not_mem_nil, or_false] at hy
 rcases hy with rfl | rfl | rfl <;> first | exact Ad.int _ _ | exact Ad.str _ | exact Ad.bool _, fun _ _ => rfl, fun x y hy => by
 simp only [AV.cells, List.mem_cons, List.not_mem_nil, or_false] at hy
 rcases hy with rfl | rfl | rfl <;> rfl⟩
theorem A5 (x : AY) : av x = .agg [.int .i64 x.var, .str x.name, .int .i64 x.arity] := eqq rfl
instance : Ge AY := ⟨fun {S w cs y} h => by
 obtain ⟨rfl, h0, h1, h2⟩ := h
 exact VRs.cons (.int _ _ h0.1 h0.2) (VRs.cons (.str _ h1) (VRs.cons (.int _ _ h2.1 h2.2) (VRs.nil)))⟩

instance : AVal Ty := ⟨fun x => .agg [.sl (x.items.map av)], 1, fun _ => rfl, fun _ => rfl, fun x y hy => by
 simp only [AV.cells, List.mem_cons, List.not_mem_nil, or_false] at hy
 subst hy; first | exact Ad.int _ _ | exact Ad.str _ | exact Ad.bool _ | exact Ak x.items, fun _ _ => rfl, fun x y hy => by
 simp only [AV.cells, List.mem_cons, List.not_mem_nil, or_false] at hy
 subst hy; rfl⟩
theorem SV (x : Ty) : av x = .agg [.sl (x.items.map av)] := eqq rfl
instance : Ge Ty := ⟨fun {S w cs y} h => by
 obtain ⟨v0, rfl, r0⟩ := h
 exact VRs.cons (Fi r0) (VRs.nil)⟩

theorem Um (x : AY) (n : Int) (hx : Ac.bulk x ≤ 4294967296) (h1 : -1 ≤ n) (h2 : n ≤ 4294967296) : L1 208 [av x, .int .i64 n] := by
 have hb : Ac.bulk x.var + Ac.bulk x.name + Ac.bulk x.arity + 1 ≤ 4294967296 := hx
 have e1 : Ac.bulk x.name = x.name.size + 1 := rfl
 refine Gp.H rfl ?_
 simp +contextual -dsimp only [↓SD, SU, simprocAttr, Gp, A5]
 (repeat' (first | intro _ | refine And.intro ?_ ?_))
 all_goals first | omega | (refine Af.post [] ?_; simp +contextual -dsimp only [↓SD, SU, simprocAttr, Gp]; exact ⟨_, rfl, rfl, by omega, by omega⟩)

theorem Uk (x : AY) (hx : Ac.bulk x ≤ 4294967296) : Ah Tryz.prog 209 [av x] (av x) := by
 have hb : Ac.bulk x.var + Ac.bulk x.name + Ac.bulk x.arity + 1 ≤ 4294967296 := hx
 refine IY.F rfl (by simp; exact AVal.clean x) (AVal.clean x) ?_
 simp +contextual -dsimp only [↓SD, SU, simprocAttr, IY, A5]

theorem Wt (x : AY) (hx : Ac.bulk x ≤ 4294967296) : Ah Tryz.prog 210 [av x, av x] (.bool true) := by
 have hb : Ac.bulk x.var + Ac.bulk x.name + Ac.bulk x.arity + 1 ≤ 4294967296 := hx
 refine I0.F rfl (by simp; exact AVal.clean x) (Ad.bool _) ?_
 simp +contextual -dsimp only [↓SD, SU, simprocAttr, I0, A5, beq_self_eq_true]

theorem Tk (l : List AY) (n : Int) (hx : Ac.bulk l ≤ 4294967296) (h1 : -1 ≤ n) (h2 : n ≤ 4294967296) : L1 200 [.sl (l.map av), .int .i64 n] := by
 have hl := Ai l
 refine DL.H rfl ?_
 simp +contextual -dsimp only [↓SD, SU, simprocAttr, DL, Ab]
 refine ⟨by omega, fun h => ?_, fun h => ?_⟩
 ·refine Af.post [] ?_; simp +contextual -dsimp only [↓SD, SU, simprocAttr, DL]; exact ⟨_, rfl, rfl, by omega, by omega⟩
 refine Am (X := Nat × Int) (fun x => ⟨[(0, .sl (l.map av)), (1, .int .i64 x.2), (5, .int .i64 x.1)], []⟩) (fun x => x.1 ≤ l.length ∧ 0 ≤ x.2 ∧ x.2 ≤ 4294967296) (fun x => l.length - x.1) (0, n - l.length) ⟨Nat.zero_le _, by simp only; omega, by simp only; omega⟩ (by simp +contextual -dsimp only [↓SD, SU, simprocAttr]) trivial ?_
 rintro ⟨k, m⟩ ⟨hk, hm0, hm1⟩
 simp only at hk hm0 hm1
 by_cases hlt : k < l.length
 ·have e := getD_map av l k .top hlt
  have hbk : Ac.bulk l[k] ≤ 4294967296 := by have := Au (List.getElem_mem hlt); omega
  simp +contextual -dsimp only [↓SD, SU, simprocAttr, Ab, hlt, e, A5]
  refine Bx [] (Um l[k] m hbk (by omega) hm1) (by simp +contextual -dsimp only [↓SD, SU, simprocAttr]) ?_
  rintro r hp' ⟨q, rfl, rfl, hq1, hq2⟩
  simp +contextual -dsimp only [↓SD, SU, simprocAttr]
  (repeat' (first | intro _ | refine And.intro ?_ ?_))
  all_goals first | omega | (refine Af.post [] ?_; simp +contextual -dsimp only [↓SD, SU, simprocAttr, DL]; exact ⟨_, rfl, rfl, by omega, by omega⟩) | exact Af.le ⟨(k + 1, q), ⟨⟨hlt, by simp only; omega, hq2⟩, (by first | omega | (simp only; omega))⟩, rfl⟩ (by simp +contextual -dsimp only [↓SD, SU, simprocAttr, Int.natCast_add]) trivial
 ·obtain rfl : k = l.length := by omega
  simp +contextual -dsimp only [↓SD, SU, simprocAttr, Ab, Nat.lt_irrefl]
  refine Af.post [] ?_
  simp +contextual -dsimp only [↓SD, SU, simprocAttr, DL]
  exact ⟨_, rfl, rfl, by omega, by omega⟩

theorem Th (l : List AY) (hx : Ac.bulk l ≤ 4294967296) : Ah Tryz.prog 202 [.sl (l.map av)] (.sl (l.map av)) := by
 have hl := Ai l
 refine Ib.F rfl (by simp; exact Ak l) (Ak l) ?_
 simp +contextual -dsimp only [↓SD, SU, simprocAttr, Ib, Ab]
 refine ⟨by omega, fun v => ?_⟩
 refine Am (X := Nat) (fun k => ⟨[(0, .sl (l.map av)), (3, .row 7 v l.length), (4, .int .i64 k)], [(7, ⟨v, false, 136, 3, Gi l (AV.agg [.int .i64 0, .str (bs []), .int .i64 0]) k⟩)]⟩) (fun k => k ≤ l.length) (fun k => l.length - k) 0 (Nat.zero_le _) (by simp +contextual -dsimp only [↓SD, SU, simprocAttr]) (by simp +contextual -dsimp only [↓SD, SU, simprocAttr, FA]) ?_
 intro k hk
 by_cases hlt : k < l.length
 ·have e := getD_map av l k .top hlt
  have e1 := Dg (AV.agg [.int .i64 0, .str (bs []), .int .i64 0]) hk
  have e2 := Gw (AV.agg [.int .i64 0, .str (bs []), .int .i64 0]) hlt .top
  have e3 := Gv (z := (AV.agg [.int .i64 0, .str (bs []), .int .i64 0])) hlt rfl
  have hbk : Ac.bulk l[k] ≤ 4294967296 := by have := Au (List.getElem_mem hlt); omega
  rw [A5] at e3
  simp +contextual -dsimp only [↓SD, SU, simprocAttr, Ab, hlt, e, A5]
  have C := Uk l[k] hbk
  rw [A5] at C
  refine Aa _ C ?_
  simp +contextual -dsimp only [↓SD, SU, simprocAttr, Ab, hlt, e, A5, e1, e2, e3]
  refine ⟨by omega, Af.le ⟨k + 1, ⟨hlt, (by first | omega | (simp only; omega))⟩, rfl⟩ (by simp +contextual -dsimp only [↓SD, SU, simprocAttr, Int.natCast_add]) (by simp +contextual -dsimp only [↓SD, SU, simprocAttr, e2, e3])⟩
 ·obtain rfl : k = l.length := by omega
  have e1 := Dg (AV.agg [.int .i64 0, .str (bs []), .int .i64 0]) hk
  simp +contextual -dsimp only [↓SD, SU, simprocAttr, Ab, Nat.lt_irrefl, FB, AB, List.take_length]
  try simp [List.take_of_length_le]

theorem TT (l : List AY) (hx : Ac.bulk l ≤ 4294967296) : Ah Tryz.prog 206 [.sl (l.map av), .sl (l.map av)] (.bool true) := by
 have hl := Ai l
 refine Ie.F rfl (by simp; exact Ak l) (Ad.bool _) ?_
 simp +contextual -dsimp only [↓SD, SU, simprocAttr, Ie, Ab]
 refine Am (X := Nat) (fun k => ⟨[(0, .sl (l.map av)), (1, .sl (l.map av)), (5, .int .i64 k)], []⟩) (fun k => k ≤ l.length) (fun k => l.length - k) 0 (Nat.zero_le _) (by simp +contextual -dsimp only [↓SD, SU, simprocAttr]) trivial ?_
 intro k hk
 by_cases hlt : k < l.length
 ·have e := getD_map av l k .top hlt
  have hbk : Ac.bulk l[k] ≤ 4294967296 := by have := Au (List.getElem_mem hlt); omega
  simp +contextual -dsimp only [↓SD, SU, simprocAttr, Ab, hlt, e, A5]
  have C := Wt l[k] hbk
  rw [A5] at C
  refine Aa _ C ?_
  simp +contextual -dsimp only [↓SD, SU, simprocAttr, Ab, hlt, e, A5]
  exact ⟨by omega, Af.le ⟨k + 1, ⟨hlt, (by first | omega | (simp only; omega))⟩, rfl⟩ (by simp +contextual -dsimp only [↓SD, SU, simprocAttr, Int.natCast_add]) trivial⟩
 ·obtain rfl : k = l.length := by omega
  simp +contextual -dsimp only [↓SD, SU, simprocAttr, Ab, Nat.lt_irrefl]

theorem Aet (x : Ty) (n : Int) (hx : Ac.bulk x ≤ 4294967296) (h1 : -1 ≤ n) (h2 : n ≤ 4294967296) : L1 174 [av x, .int .i64 n] := by
 have hb : Ac.bulk x.items + 1 ≤ 4294967296 := hx
 refine Hl.H rfl ?_
 simp +contextual -dsimp only [↓SD, SU, simprocAttr, Hl, SV]
 (repeat' (first | intro _ | refine And.intro ?_ ?_))
 all_goals first | omega | (refine Af.post [] ?_; simp +contextual -dsimp only [↓SD, SU, simprocAttr, Hl]; exact ⟨_, rfl, rfl, by omega, by omega⟩) | (refine Bx [] (Tk x.items _ (by omega)  (by omega) (by omega)) (by simp +contextual -dsimp only [↓SD, SU, simprocAttr]) ?_; rintro r hp' ⟨m, rfl, rfl, hm1, hm2⟩; simp +contextual -dsimp only [↓SD, SU, simprocAttr]; (repeat' (first | intro _ | refine And.intro ?_ ?_)))
 all_goals first | omega | (refine Af.post [] ?_; simp +contextual -dsimp only [↓SD, SU, simprocAttr, Hl]; exact ⟨_, rfl, rfl, by omega, by omega⟩)

theorem Aes (x : Ty) (hx : Ac.bulk x ≤ 4294967296) : Ah Tryz.prog 186 [av x] (av x) := by
 have hb : Ac.bulk x.items + 1 ≤ 4294967296 := hx
 refine ML.F rfl (by simp; exact AVal.clean x) (AVal.clean x) ?_
 simp +contextual -dsimp only [↓SD, SU, simprocAttr, ML, SV]
 (repeat' (first | intro _ | refine And.intro ?_ ?_))
 refine Aa _ (Th x.items (by omega)) ?_
 simp +contextual -dsimp only [↓SD, SU, simprocAttr]

theorem AeZ (x : Ty) (hx : Ac.bulk x ≤ 4294967296) : Ah Tryz.prog 198 [av x, av x] (.bool true) := by
 have hb : Ac.bulk x.items + 1 ≤ 4294967296 := hx
 refine MM.F rfl (by simp; exact AVal.clean x) (Ad.bool _) ?_
 simp +contextual -dsimp only [↓SD, SU, simprocAttr, MM, SV, beq_self_eq_true]
 refine Aa _ (TT x.items (by omega)) ?_
 simp +contextual -dsimp only [↓SD, SU, simprocAttr, beq_self_eq_true]

end Go.Proofs.YtppjinmlfcokaaaGreat
set_option linter.unusedVariables false
set_option maxRecDepth 100000
namespace Go.Proofs.YtppjinmlfcokaaaGreat
open Go.Proofs.YtppjinmlfcokaaaGreat.Av

theorem A9 : Tryz.prog.follows .mixedOrders = true := by kernel_rfl

def GD : Ir Tryz.prog 140 [(15, 7777)] [9999] 2 := ⟨_, _, Tryz.func140, A9, by kernel_rfl, Aj [] Tryz.progTables (by conv => lhs; cbv) (by kernel_rfl)⟩
def Ln : Ir Tryz.prog 150 [] [] 1 := ⟨_, _, Tryz.func150, A9, by kernel_rfl, Aj [] Tryz.progTables (by conv => lhs; cbv) (by kernel_rfl)⟩
def Lp : Ir Tryz.prog 166 [] [] 2 := ⟨_, _, Tryz.func166, A9, by kernel_rfl, Aj [] Tryz.progTables (by conv => lhs; cbv) (by kernel_rfl)⟩
def EG : Ir Tryz.prog 76 [(23, 7777)] [9999] 2 := ⟨_, _, Tryz.func76, A9, by kernel_rfl, Aj [] Tryz.progTables (by conv => lhs; cbv) (by kernel_rfl)⟩
def Ku : Ir Tryz.prog 89 [] [] 1 := ⟨_, _, Tryz.func89, A9, by kernel_rfl, Aj [] Tryz.progTables (by conv => lhs; cbv) (by kernel_rfl)⟩
def Kz : Ir Tryz.prog 122 [] [] 2 := ⟨_, _, Tryz.func122, A9, by kernel_rfl, Aj [] Tryz.progTables (by conv => lhs; cbv) (by kernel_rfl)⟩
def F2 : Ir Tryz.prog 38 [(15, 7777)] [9999] 2 := ⟨_, _, Tryz.func38, A9, by kernel_rfl, Aj [] Tryz.progTables (by conv => lhs; cbv) (by kernel_rfl)⟩
def Kq : Ir Tryz.prog 45 [] [] 1 := ⟨_, _, Tryz.func45, A9, by kernel_rfl, Aj [] Tryz.progTables (by conv => lhs; cbv) (by kernel_rfl)⟩
def Kv : Ir Tryz.prog 59 [] [] 2 := ⟨_, _, Tryz.func59, A9, by kernel_rfl, Aj [] Tryz.progTables (by conv => lhs; cbv) (by kernel_rfl)⟩
def EF : Ir Tryz.prog 39 [(15, 7777), (21, 7777)] [9999] 2 := ⟨_, _, Tryz.func39, A9, by kernel_rfl, Aj [] Tryz.progTables (by conv => lhs; cbv) (by kernel_rfl)⟩
def Ks : Ir Tryz.prog 46 [] [] 1 := ⟨_, _, Tryz.func46, A9, by kernel_rfl, Aj [] Tryz.progTables (by conv => lhs; cbv) (by kernel_rfl)⟩
def Kx : Ir Tryz.prog 60 [] [] 2 := ⟨_, _, Tryz.func60, A9, by kernel_rfl, Aj [] Tryz.progTables (by conv => lhs; cbv) (by kernel_rfl)⟩
def Ej : Ir Tryz.prog 14 [(23, 7777)] [9999] 2 := ⟨_, _, Tryz.func14, A9, by kernel_rfl, Aj [] Tryz.progTables (by conv => lhs; cbv) (by kernel_rfl)⟩
def JL : Ir Tryz.prog 20 [] [] 1 := ⟨_, _, Tryz.func20, A9, by kernel_rfl, Aj [] Tryz.progTables (by conv => lhs; cbv) (by kernel_rfl)⟩
def JO : Ir Tryz.prog 27 [] [] 2 := ⟨_, _, Tryz.func27, A9, by kernel_rfl, Aj [] Tryz.progTables (by conv => lhs; cbv) (by kernel_rfl)⟩
def Ek : Ir Tryz.prog 15 [(23, 7777)] [9999] 2 := ⟨_, _, Tryz.func15, A9, by kernel_rfl, Aj [] Tryz.progTables (by conv => lhs; cbv) (by kernel_rfl)⟩
def JN : Ir Tryz.prog 21 [] [] 1 := ⟨_, _, Tryz.func21, A9, by kernel_rfl, Aj [] Tryz.progTables (by conv => lhs; cbv) (by kernel_rfl)⟩
def JQ : Ir Tryz.prog 28 [] [] 2 := ⟨_, _, Tryz.func28, A9, by kernel_rfl, Aj [] Tryz.progTables (by conv => lhs; cbv) (by kernel_rfl)⟩
def DM : Ir Tryz.prog 5 [(14, 7777), (8, 7777)] [9999] 2 := ⟨_, _, Tryz.func5, A9, by kernel_rfl, Aj [] Tryz.progTables (by conv => lhs; cbv) (by kernel_rfl)⟩
def Ic : Ir Tryz.prog 7 [] [] 1 := ⟨_, _, Tryz.func7, A9, by kernel_rfl, Aj [] Tryz.progTables (by conv => lhs; cbv) (by kernel_rfl)⟩
def Ig : Ir Tryz.prog 9 [] [] 2 := ⟨_, _, Tryz.func9, A9, by kernel_rfl, Aj [] Tryz.progTables (by conv => lhs; cbv) (by kernel_rfl)⟩
end Go.Proofs.YtppjinmlfcokaaaGreat
