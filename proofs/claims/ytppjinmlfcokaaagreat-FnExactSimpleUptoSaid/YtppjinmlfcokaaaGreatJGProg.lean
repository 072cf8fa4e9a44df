/-
 Con, Type, Node, Program BY ABSTRACT TEXTS: as abstract values, copies, comparisons, AM. Conditions: none. Printed by genav.py.
-/
import Derived.Test.YtppjinmlfcokaaaGreatJJ01
import Derived.Test.YtppjinmlfcokaaaGreatJJ09
import Derived.Test.YtppjinmlfcokaaaGreatJJ08
set_option linter.unusedVariables false
set_option linter.unusedSimpArgs false
set_option maxRecDepth 100000
namespace Go.Proofs.YtppjinmlfcokaaaGreat
open Go.RowKit Go.Proofs.YtppjinmlfcokaaaGreat.Av Go.Proofs.YtppjinmlfcokaaaGreat.Ml
open Go.Proofs.YtppjinmlfcokaaaGreat.Av.AVal (av)

instance : AVal Con := ⟨fun x => .agg [.str x.name, .bool x.has, .sl (x.arg.items.map av)], 3, fun _ => rfl, fun _ => rfl, fun x y hy => by
 simp only [AV.cells, List.mem_cons, List.not_mem_nil, or_false] at hy
 rcases hy with rfl | rfl | rfl <;> first | exact Ae.int _ _ | exact Ae.str _ | exact Ae.bool _ | exact Ao x.arg.items, fun _ _ => rfl, fun x y hy => by
 simp only [AV.cells, List.mem_cons, List.not_mem_nil, or_false] at hy
 rcases hy with rfl | rfl | rfl <;> rfl⟩
theorem Cq (x : Con) : av x = .agg [.str x.name, .bool x.has, .sl (x.arg.items.map av)] := eqq rfl
instance : Gd Con := ⟨fun {S w cs y} h => by
 obtain ⟨v2, rfl, h0, r2⟩ := h
 exact VRs.cons (.str _ h0) (VRs.cons (.bool _) (VRs.cons (Fe r2) (VRs.nil)))⟩

instance : AVal BK := ⟨fun x => .agg [.str x.name, .int .i64 x.params, .sl (x.cons.map av)], 3, fun _ => rfl, fun _ => rfl, fun x y hy => by
 simp only [AV.cells, List.mem_cons, List.not_mem_nil, or_false] at hy
 rcases hy with rfl | rfl | rfl <;> first | exact Ae.int _ _ | exact Ae.str _ | exact Ae.bool _ | exact Ao x.cons, fun _ _ => rfl, fun x y hy => by
 simp only [AV.cells, List.mem_cons, List.not_mem_nil, or_false] at hy
 rcases hy with rfl | rfl | rfl <;> rfl⟩
theorem BJ (x : BK) : av x = .agg [.str x.name, .int .i64 x.params, .sl (x.cons.map av)] := eqq rfl
instance : Gd BK := ⟨fun {S w cs y} h => by
 obtain ⟨v2, rfl, h0, h1, r2⟩ := h
 exact VRs.cons (.str _ h0) (VRs.cons (.int _ _ h1.1 h1.2) (VRs.cons (Fe r2) (VRs.nil)))⟩

instance : AVal Node := ⟨fun x => .agg [.int .i64 x.kind, .int .i64 x.pos, .int .i64 x.n, .str x.s, .sl (x.kids.map av), .sl (x.Ai.map av)], 6, fun _ => rfl, fun _ => rfl, fun x y hy => by
 simp only [AV.cells, List.mem_cons, List.not_mem_nil, or_false] at hy
 rcases hy with rfl | rfl | rfl | rfl | rfl | rfl <;> first | exact Ae.int _ _ | exact Ae.str _ | exact Ae.bool _ | exact Ao x.kids | exact Ao x.Ai, fun _ _ => rfl, fun x y hy => by
 simp only [AV.cells, List.mem_cons, List.not_mem_nil, or_false] at hy
 rcases hy with rfl | rfl | rfl | rfl | rfl | rfl <;> rfl⟩
theorem Ay (x : Node) : av x = .agg [.int .i64 x.kind, .int .i64 x.pos, .int .i64 x.n, .str x.s, .sl (x.kids.map av), .sl (x.Ai.map av)] := eqq rfl
instance : Gd Node := ⟨fun {S w cs y} h => by
 obtain ⟨v4, v5, rfl, h0, h1, h2, h3, r4, r5⟩ := h
 exact VRs.cons (.int _ _ h0.1 h0.2) (VRs.cons (.int _ _ h1.1 h1.2) (VRs.cons (.int _ _ h2.1 h2.2) (VRs.cons (.str _ h3) (VRs.cons (Fe r4) (VRs.cons (Fe r5) (VRs.nil))))))⟩

instance : AVal Program := ⟨fun x => .agg [.sl (x.types.map av), .sl (x.nodes.map av)], 2, fun _ => rfl, fun _ => rfl, fun x y hy => by
 simp only [AV.cells, List.mem_cons, List.not_mem_nil, or_false] at hy
 rcases hy with rfl | rfl <;> first | exact Ae.int _ _ | exact Ae.str _ | exact Ae.bool _ | exact Ao x.types | exact Ao x.nodes, fun _ _ => rfl, fun x y hy => by
 simp only [AV.cells, List.mem_cons, List.not_mem_nil, or_false] at hy
 rcases hy with rfl | rfl <;> rfl⟩
theorem Ad (x : Program) : av x = .agg [.sl (x.types.map av), .sl (x.nodes.map av)] := eqq rfl
instance : Gd Program := ⟨fun {S w cs y} h => by
 obtain ⟨v0, v1, rfl, r0, r1⟩ := h
 exact VRs.cons (Fe r0) (VRs.cons (Fe r1) (VRs.nil))⟩

theorem Ab5 (x : Con) (n : Int) (hx : Ac.bulk x ≤ 4294967296) (h1 : -1 ≤ n) (h2 : n ≤ 4294967296) : Mj 140 [av x, .int .i64 n] := by
 have hb : Ac.bulk x.name + Ac.bulk x.has + Ac.bulk x.arg + 1 ≤ 4294967296 := hx
 have e0 : Ac.bulk x.name = x.name.size + 1 := rfl
 refine GF.H rfl ?_
 simp +contextual -dsimp only [↓SD, SU, simprocAttr, GF, Cq]
 (repeat' (first | intro _ | refine And.intro ?_ ?_))
 all_goals first | omega | (refine Af.post [] ?_; simp +contextual -dsimp only [↓SD, SU, simprocAttr, GF]; exact ⟨_, rfl, rfl, by omega, by omega⟩) | (refine BB [] (AdV x.arg _ (by omega)  (by omega) (by omega)) (by simp +contextual -dsimp only [↓SD, SU, simprocAttr]) ?_; rintro r hp' ⟨m, rfl, rfl, hm1, hm2⟩; simp +contextual -dsimp only [↓SD, SU, simprocAttr]; (repeat' (first | intro _ | refine And.intro ?_ ?_)))
 all_goals first | omega | (refine Af.post [] ?_; simp +contextual -dsimp only [↓SD, SU, simprocAttr, GF]; exact ⟨_, rfl, rfl, by omega, by omega⟩)

theorem Ab2 (x : Con) (hx : Ac.bulk x ≤ 4294967296) : Ak Tryz.prog 150 [av x] (av x) := by
 have hb : Ac.bulk x.name + Ac.bulk x.has + Ac.bulk x.arg + 1 ≤ 4294967296 := hx
 refine LH.F rfl (by simp; exact AVal.clean x) (AVal.clean x) ?_
 simp +contextual -dsimp only [↓SD, SU, simprocAttr, LH, Cq]
 (repeat' (first | intro _ | refine And.intro ?_ ?_))
 have C := AdU x.arg (by omega)
 rw [Nv] at C
 refine Ab _ C ?_
 clear C
 simp +contextual -dsimp only [↓SD, SU, simprocAttr]

theorem Adf (x : Con) (hx : Ac.bulk x ≤ 4294967296) : Ak Tryz.prog 166 [av x, av x] (.bool true) := by
 have hb : Ac.bulk x.name + Ac.bulk x.has + Ac.bulk x.arg + 1 ≤ 4294967296 := hx
 refine LJ.F rfl (by simp; exact AVal.clean x) (Ae.bool _) ?_
 simp +contextual -dsimp only [↓SD, SU, simprocAttr, LJ, Cq, beq_self_eq_true]
 have C := Aej x.arg (by omega)
 rw [Nv] at C
 refine Ab _ C ?_
 clear C
 simp +contextual -dsimp only [↓SD, SU, simprocAttr, beq_self_eq_true]

theorem AaZ (l : List Con) (n : Int) (hx : Ac.bulk l ≤ 4294967296) (h1 : -1 ≤ n) (h2 : n ≤ 4294967296) : Mj 76 [.sl (l.map av), .int .i64 n] := by
 have hl := Ag l
 refine EA.H rfl ?_
 simp +contextual -dsimp only [↓SD, SU, simprocAttr, EA, Aa]
 refine ⟨by omega, fun h => ?_, fun h => ?_⟩
 ·refine Af.post [] ?_; simp +contextual -dsimp only [↓SD, SU, simprocAttr, EA]; exact ⟨_, rfl, rfl, by omega, by omega⟩
 refine Am (X := Nat × Int) (fun x => ⟨[(0, .sl (l.map av)), (1, .int .i64 x.2), (5, .int .i64 x.1)], []⟩) (fun x => x.1 ≤ l.length ∧ 0 ≤ x.2 ∧ x.2 ≤ 4294967296) (fun x => l.length - x.1) (0, n - l.length) ⟨Nat.zero_le _, by simp only; omega, by simp only; omega⟩ (by simp +contextual -dsimp only [↓SD, SU, simprocAttr]) trivial ?_
 rintro ⟨k, m⟩ ⟨hk, hm0, hm1⟩
 simp only at hk hm0 hm1
 by_cases hlt : k < l.length
 ·have e := getD_map av l k .top hlt
  have hbk : Ac.bulk l[k] ≤ 4294967296 := by have := AG (List.getElem_mem hlt); omega
  simp +contextual -dsimp only [↓SD, SU, simprocAttr, Aa, hlt, e, Cq]
  refine BB [] (Ab5 l[k] m hbk (by omega) hm1) (by simp +contextual -dsimp only [↓SD, SU, simprocAttr]) ?_
  rintro r hp' ⟨q, rfl, rfl, hq1, hq2⟩
  simp +contextual -dsimp only [↓SD, SU, simprocAttr]
  (repeat' (first | intro _ | refine And.intro ?_ ?_))
  all_goals first | omega | (refine Af.post [] ?_; simp +contextual -dsimp only [↓SD, SU, simprocAttr, EA]; exact ⟨_, rfl, rfl, by omega, by omega⟩) | exact Af.le ⟨(k + 1, q), ⟨⟨hlt, by simp only; omega, hq2⟩, (by first | omega | (simp only; omega))⟩, rfl⟩ (by simp +contextual -dsimp only [↓SD, SU, simprocAttr, Int.natCast_add]) trivial
 ·obtain rfl : k = l.length := by omega
  simp +contextual -dsimp only [↓SD, SU, simprocAttr, Aa, Nat.lt_irrefl]
  refine Af.post [] ?_
  simp +contextual -dsimp only [↓SD, SU, simprocAttr, EA]
  exact ⟨_, rfl, rfl, by omega, by omega⟩

theorem AaV (l : List Con) (hx : Ac.bulk l ≤ 4294967296) : Ak Tryz.prog 89 [.sl (l.map av)] (.sl (l.map av)) := by
 have hl := Ag l
 refine KN.F rfl (by simp; exact Ao l) (Ao l) ?_
 simp +contextual -dsimp only [↓SD, SU, simprocAttr, KN, Aa]
 refine ⟨by omega, fun v => ?_⟩
 refine Am (X := Nat) (fun k => ⟨[(0, .sl (l.map av)), (3, .row 7 v l.length), (4, .int .i64 k)], [(7, ⟨v, false, 77, 3, FI l (AV.agg [.str (bs []), .bool false, .Aj]) k⟩)]⟩) (fun k => k ≤ l.length) (fun k => l.length - k) 0 (Nat.zero_le _) (by simp +contextual -dsimp only [↓SD, SU, simprocAttr]) (by simp +contextual -dsimp only [↓SD, SU, simprocAttr, Ea]) ?_
 intro k hk
 by_cases hlt : k < l.length
 ·have e := getD_map av l k .top hlt
  have e1 := Ct (AV.agg [.str (bs []), .bool false, .Aj]) hk
  have e2 := EV (AV.agg [.str (bs []), .bool false, .Aj]) hlt .top
  have e3 := EU (z := (AV.agg [.str (bs []), .bool false, .Aj])) hlt rfl
  have hbk : Ac.bulk l[k] ≤ 4294967296 := by have := AG (List.getElem_mem hlt); omega
  rw [Cq] at e3
  simp +contextual -dsimp only [↓SD, SU, simprocAttr, Aa, hlt, e, Cq]
  have C := Ab2 l[k] hbk
  rw [Cq] at C
  refine Ab _ C ?_
  simp +contextual -dsimp only [↓SD, SU, simprocAttr, Aa, hlt, e, Cq, e1, e2, e3]
  refine ⟨by omega, Af.le ⟨k + 1, ⟨hlt, (by first | omega | (simp only; omega))⟩, rfl⟩ (by simp +contextual -dsimp only [↓SD, SU, simprocAttr, Int.natCast_add]) (by simp +contextual -dsimp only [↓SD, SU, simprocAttr, e2, e3])⟩
 ·obtain rfl : k = l.length := by omega
  have e1 := Ct (AV.agg [.str (bs []), .bool false, .Aj]) hk
  simp +contextual -dsimp only [↓SD, SU, simprocAttr, Aa, Nat.lt_irrefl, Eb, AK, List.take_length]
  try simp [List.take_of_length_le]

theorem Abz (l : List Con) (hx : Ac.bulk l ≤ 4294967296) : Ak Tryz.prog 122 [.sl (l.map av), .sl (l.map av)] (.bool true) := by
 have hl := Ag l
 refine KT.F rfl (by simp; exact Ao l) (Ae.bool _) ?_
 simp +contextual -dsimp only [↓SD, SU, simprocAttr, KT, Aa]
 refine Am (X := Nat) (fun k => ⟨[(0, .sl (l.map av)), (1, .sl (l.map av)), (5, .int .i64 k)], []⟩) (fun k => k ≤ l.length) (fun k => l.length - k) 0 (Nat.zero_le _) (by simp +contextual -dsimp only [↓SD, SU, simprocAttr]) trivial ?_
 intro k hk
 by_cases hlt : k < l.length
 ·have e := getD_map av l k .top hlt
  have hbk : Ac.bulk l[k] ≤ 4294967296 := by have := AG (List.getElem_mem hlt); omega
  simp +contextual -dsimp only [↓SD, SU, simprocAttr, Aa, hlt, e, Cq]
  have C := Adf l[k] hbk
  rw [Cq] at C
  refine Ab _ C ?_
  simp +contextual -dsimp only [↓SD, SU, simprocAttr, Aa, hlt, e, Cq]
  exact ⟨by omega, Af.le ⟨k + 1, ⟨hlt, (by first | omega | (simp only; omega))⟩, rfl⟩ (by simp +contextual -dsimp only [↓SD, SU, simprocAttr, Int.natCast_add]) trivial⟩
 ·obtain rfl : k = l.length := by omega
  simp +contextual -dsimp only [↓SD, SU, simprocAttr, Aa, Nat.lt_irrefl]

theorem AaX (x : BK) (n : Int) (hx : Ac.bulk x ≤ 4294967296) (h1 : -1 ≤ n) (h2 : n ≤ 4294967296) : Mj 38 [av x, .int .i64 n] := by
 have hb : Ac.bulk x.name + Ac.bulk x.params + Ac.bulk x.cons + 1 ≤ 4294967296 := hx
 have e0 : Ac.bulk x.name = x.name.size + 1 := rfl
 refine F2.H rfl ?_
 simp +contextual -dsimp only [↓SD, SU, simprocAttr, F2, BJ]
 (repeat' (first | intro _ | refine And.intro ?_ ?_))
 all_goals first | omega | (refine Af.post [] ?_; simp +contextual -dsimp only [↓SD, SU, simprocAttr, F2]; exact ⟨_, rfl, rfl, by omega, by omega⟩) | (refine BB [] (AaZ x.cons _ (by omega)  (by omega) (by omega)) (by simp +contextual -dsimp only [↓SD, SU, simprocAttr]) ?_; rintro r hp' ⟨m, rfl, rfl, hm1, hm2⟩; simp +contextual -dsimp only [↓SD, SU, simprocAttr]; (repeat' (first | intro _ | refine And.intro ?_ ?_)))
 all_goals first | omega | (refine Af.post [] ?_; simp +contextual -dsimp only [↓SD, SU, simprocAttr, F2]; exact ⟨_, rfl, rfl, by omega, by omega⟩)

theorem AaQ (x : BK) (hx : Ac.bulk x ≤ 4294967296) : Ak Tryz.prog 45 [av x] (av x) := by
 have hb : Ac.bulk x.name + Ac.bulk x.params + Ac.bulk x.cons + 1 ≤ 4294967296 := hx
 refine KI.F rfl (by simp; exact AVal.clean x) (AVal.clean x) ?_
 simp +contextual -dsimp only [↓SD, SU, simprocAttr, KI, BJ]
 (repeat' (first | intro _ | refine And.intro ?_ ?_))
 refine Ab _ (AaV x.cons (by omega)) ?_
 simp +contextual -dsimp only [↓SD, SU, simprocAttr]

theorem Abx (x : BK) (hx : Ac.bulk x ≤ 4294967296) : Ak Tryz.prog 59 [av x, av x] (.bool true) := by
 have hb : Ac.bulk x.name + Ac.bulk x.params + Ac.bulk x.cons + 1 ≤ 4294967296 := hx
 refine KO.F rfl (by simp; exact AVal.clean x) (Ae.bool _) ?_
 simp +contextual -dsimp only [↓SD, SU, simprocAttr, KO, BJ, beq_self_eq_true]
 refine Ab _ (Abz x.cons (by omega)) ?_
 simp +contextual -dsimp only [↓SD, SU, simprocAttr, beq_self_eq_true]

theorem AaY (x : Node) (n : Int) (hx : Ac.bulk x ≤ 4294967296) (h1 : -1 ≤ n) (h2 : n ≤ 4294967296) : Mj 39 [av x, .int .i64 n] := by
 have hb : Ac.bulk x.kind + Ac.bulk x.pos + Ac.bulk x.n + Ac.bulk x.s + Ac.bulk x.kids + Ac.bulk x.Ai + 1 ≤ 4294967296 := hx
 have e3 : Ac.bulk x.s = x.s.size + 1 := rfl
 refine Ez.H rfl ?_
 simp +contextual -dsimp only [↓SD, SU, simprocAttr, Ez, Ay]
 (repeat' (first | intro _ | refine And.intro ?_ ?_))
 all_goals first | omega | (refine Af.post [] ?_; simp +contextual -dsimp only [↓SD, SU, simprocAttr, Ez]; exact ⟨_, rfl, rfl, by omega, by omega⟩) | (refine BB [] (ND x.kids _ (by omega)  (by omega) (by omega)) (by simp +contextual -dsimp only [↓SD, SU, simprocAttr]) ?_; rintro r hp' ⟨m, rfl, rfl, hm1, hm2⟩; simp +contextual -dsimp only [↓SD, SU, simprocAttr]; (repeat' (first | intro _ | refine And.intro ?_ ?_))) | (refine BB [] (Ro x.Ai _ (by omega)  (by omega) (by omega)) (by simp +contextual -dsimp only [↓SD, SU, simprocAttr]) ?_; rintro r hp' ⟨m, rfl, rfl, hm1, hm2⟩; simp +contextual -dsimp only [↓SD, SU, simprocAttr]; (repeat' (first | intro _ | refine And.intro ?_ ?_)))
 all_goals first | omega | (refine Af.post [] ?_; simp +contextual -dsimp only [↓SD, SU, simprocAttr, Ez]; exact ⟨_, rfl, rfl, by omega, by omega⟩) | (refine BB [] (ND x.kids _ (by omega)  (by omega) (by omega)) (by simp +contextual -dsimp only [↓SD, SU, simprocAttr]) ?_; rintro r hp' ⟨m, rfl, rfl, hm1, hm2⟩; simp +contextual -dsimp only [↓SD, SU, simprocAttr]; (repeat' (first | intro _ | refine And.intro ?_ ?_))) | (refine BB [] (Ro x.Ai _ (by omega)  (by omega) (by omega)) (by simp +contextual -dsimp only [↓SD, SU, simprocAttr]) ?_; rintro r hp' ⟨m, rfl, rfl, hm1, hm2⟩; simp +contextual -dsimp only [↓SD, SU, simprocAttr]; (repeat' (first | intro _ | refine And.intro ?_ ?_)))
 all_goals first | omega | (refine Af.post [] ?_; simp +contextual -dsimp only [↓SD, SU, simprocAttr, Ez]; exact ⟨_, rfl, rfl, by omega, by omega⟩)

theorem AaT (x : Node) (hx : Ac.bulk x ≤ 4294967296) : Ak Tryz.prog 46 [av x] (av x) := by
 have hb : Ac.bulk x.kind + Ac.bulk x.pos + Ac.bulk x.n + Ac.bulk x.s + Ac.bulk x.kids + Ac.bulk x.Ai + 1 ≤ 4294967296 := hx
 refine KL.F rfl (by simp; exact AVal.clean x) (AVal.clean x) ?_
 simp +contextual -dsimp only [↓SD, SU, simprocAttr, KL, Ay]
 (repeat' (first | intro _ | refine And.intro ?_ ?_))
 refine Ab _ (Rm x.kids (by omega)) ?_
 simp +contextual -dsimp only [↓SD, SU, simprocAttr]
 (repeat' (first | intro _ | refine And.intro ?_ ?_))
 refine Ab _ (AaS x.Ai (by omega)) ?_
 simp +contextual -dsimp only [↓SD, SU, simprocAttr]

theorem Sp (x : Node) (hx : Ac.bulk x ≤ 4294967296) : Ak Tryz.prog 60 [av x, av x] (.bool true) := by
 have hb : Ac.bulk x.kind + Ac.bulk x.pos + Ac.bulk x.n + Ac.bulk x.s + Ac.bulk x.kids + Ac.bulk x.Ai + 1 ≤ 4294967296 := hx
 refine KR.F rfl (by simp; exact AVal.clean x) (Ae.bool _) ?_
 simp +contextual -dsimp only [↓SD, SU, simprocAttr, KR, Ay, beq_self_eq_true]
 refine Ab _ (Sq x.kids (by omega)) ?_
 simp +contextual -dsimp only [↓SD, SU, simprocAttr, beq_self_eq_true]
 refine Ab _ (Aby x.Ai (by omega)) ?_
 simp +contextual -dsimp only [↓SD, SU, simprocAttr, beq_self_eq_true]

theorem Ph (l : List BK) (n : Int) (hx : Ac.bulk l ≤ 4294967296) (h1 : -1 ≤ n) (h2 : n ≤ 4294967296) : Mj 14 [.sl (l.map av), .int .i64 n] := by
 have hl := Ag l
 refine Ed.H rfl ?_
 simp +contextual -dsimp only [↓SD, SU, simprocAttr, Ed, Aa]
 refine ⟨by omega, fun h => ?_, fun h => ?_⟩
 ·refine Af.post [] ?_; simp +contextual -dsimp only [↓SD, SU, simprocAttr, Ed]; exact ⟨_, rfl, rfl, by omega, by omega⟩
 refine Am (X := Nat × Int) (fun x => ⟨[(0, .sl (l.map av)), (1, .int .i64 x.2), (5, .int .i64 x.1)], []⟩) (fun x => x.1 ≤ l.length ∧ 0 ≤ x.2 ∧ x.2 ≤ 4294967296) (fun x => l.length - x.1) (0, n - l.length) ⟨Nat.zero_le _, by simp only; omega, by simp only; omega⟩ (by simp +contextual -dsimp only [↓SD, SU, simprocAttr]) trivial ?_
 rintro ⟨k, m⟩ ⟨hk, hm0, hm1⟩
 simp only at hk hm0 hm1
 by_cases hlt : k < l.length
 ·have e := getD_map av l k .top hlt
  have hbk : Ac.bulk l[k] ≤ 4294967296 := by have := AG (List.getElem_mem hlt); omega
  simp +contextual -dsimp only [↓SD, SU, simprocAttr, Aa, hlt, e, BJ]
  refine BB [] (AaX l[k] m hbk (by omega) hm1) (by simp +contextual -dsimp only [↓SD, SU, simprocAttr]) ?_
  rintro r hp' ⟨q, rfl, rfl, hq1, hq2⟩
  simp +contextual -dsimp only [↓SD, SU, simprocAttr]
  (repeat' (first | intro _ | refine And.intro ?_ ?_))
  all_goals first | omega | (refine Af.post [] ?_; simp +contextual -dsimp only [↓SD, SU, simprocAttr, Ed]; exact ⟨_, rfl, rfl, by omega, by omega⟩) | exact Af.le ⟨(k + 1, q), ⟨⟨hlt, by simp only; omega, hq2⟩, (by first | omega | (simp only; omega))⟩, rfl⟩ (by simp +contextual -dsimp only [↓SD, SU, simprocAttr, Int.natCast_add]) trivial
 ·obtain rfl : k = l.length := by omega
  simp +contextual -dsimp only [↓SD, SU, simprocAttr, Aa, Nat.lt_irrefl]
  refine Af.post [] ?_
  simp +contextual -dsimp only [↓SD, SU, simprocAttr, Ed]
  exact ⟨_, rfl, rfl, by omega, by omega⟩

theorem Xy (l : List BK) (hx : Ac.bulk l ≤ 4294967296) : Ak Tryz.prog 20 [.sl (l.map av)] (.sl (l.map av)) := by
 have hl := Ag l
 refine J8.F rfl (by simp; exact Ao l) (Ao l) ?_
 simp +contextual -dsimp only [↓SD, SU, simprocAttr, J8, Aa]
 refine ⟨by omega, fun v => ?_⟩
 refine Am (X := Nat) (fun k => ⟨[(0, .sl (l.map av)), (3, .row 7 v l.length), (4, .int .i64 k)], [(7, ⟨v, false, 72, 3, FI l (AV.agg [.str (bs []), .int .i64 0, .Aj]) k⟩)]⟩) (fun k => k ≤ l.length) (fun k => l.length - k) 0 (Nat.zero_le _) (by simp +contextual -dsimp only [↓SD, SU, simprocAttr]) (by simp +contextual -dsimp only [↓SD, SU, simprocAttr, Ea]) ?_
 intro k hk
 by_cases hlt : k < l.length
 ·have e := getD_map av l k .top hlt
  have e1 := Ct (AV.agg [.str (bs []), .int .i64 0, .Aj]) hk
  have e2 := EV (AV.agg [.str (bs []), .int .i64 0, .Aj]) hlt .top
  have e3 := EU (z := (AV.agg [.str (bs []), .int .i64 0, .Aj])) hlt rfl
  have hbk : Ac.bulk l[k] ≤ 4294967296 := by have := AG (List.getElem_mem hlt); omega
  rw [BJ] at e3
  simp +contextual -dsimp only [↓SD, SU, simprocAttr, Aa, hlt, e, BJ]
  have C := AaQ l[k] hbk
  rw [BJ] at C
  refine Ab _ C ?_
  simp +contextual -dsimp only [↓SD, SU, simprocAttr, Aa, hlt, e, BJ, e1, e2, e3]
  refine ⟨by omega, Af.le ⟨k + 1, ⟨hlt, (by first | omega | (simp only; omega))⟩, rfl⟩ (by simp +contextual -dsimp only [↓SD, SU, simprocAttr, Int.natCast_add]) (by simp +contextual -dsimp only [↓SD, SU, simprocAttr, e2, e3])⟩
 ·obtain rfl : k = l.length := by omega
  have e1 := Ct (AV.agg [.str (bs []), .int .i64 0, .Aj]) hk
  simp +contextual -dsimp only [↓SD, SU, simprocAttr, Aa, Nat.lt_irrefl, Eb, AK, List.take_length]
  try simp [List.take_of_length_le]

theorem Qt (l : List BK) (hx : Ac.bulk l ≤ 4294967296) : Ak Tryz.prog 27 [.sl (l.map av), .sl (l.map av)] (.bool true) := by
 have hl := Ag l
 refine Kd.F rfl (by simp; exact Ao l) (Ae.bool _) ?_
 simp +contextual -dsimp only [↓SD, SU, simprocAttr, Kd, Aa]
 refine Am (X := Nat) (fun k => ⟨[(0, .sl (l.map av)), (1, .sl (l.map av)), (5, .int .i64 k)], []⟩) (fun k => k ≤ l.length) (fun k => l.length - k) 0 (Nat.zero_le _) (by simp +contextual -dsimp only [↓SD, SU, simprocAttr]) trivial ?_
 intro k hk
 by_cases hlt : k < l.length
 ·have e := getD_map av l k .top hlt
  have hbk : Ac.bulk l[k] ≤ 4294967296 := by have := AG (List.getElem_mem hlt); omega
  simp +contextual -dsimp only [↓SD, SU, simprocAttr, Aa, hlt, e, BJ]
  have C := Abx l[k] hbk
  rw [BJ] at C
  refine Ab _ C ?_
  simp +contextual -dsimp only [↓SD, SU, simprocAttr, Aa, hlt, e, BJ]
  exact ⟨by omega, Af.le ⟨k + 1, ⟨hlt, (by first | omega | (simp only; omega))⟩, rfl⟩ (by simp +contextual -dsimp only [↓SD, SU, simprocAttr, Int.natCast_add]) trivial⟩
 ·obtain rfl : k = l.length := by omega
  simp +contextual -dsimp only [↓SD, SU, simprocAttr, Aa, Nat.lt_irrefl]

theorem Pj (l : List Node) (n : Int) (hx : Ac.bulk l ≤ 4294967296) (h1 : -1 ≤ n) (h2 : n ≤ 4294967296) : Mj 15 [.sl (l.map av), .int .i64 n] := by
 have hl := Ag l
 refine Ee.H rfl ?_
 simp +contextual -dsimp only [↓SD, SU, simprocAttr, Ee, Aa]
 refine ⟨by omega, fun h => ?_, fun h => ?_⟩
 ·refine Af.post [] ?_; simp +contextual -dsimp only [↓SD, SU, simprocAttr, Ee]; exact ⟨_, rfl, rfl, by omega, by omega⟩
 refine Am (X := Nat × Int) (fun x => ⟨[(0, .sl (l.map av)), (1, .int .i64 x.2), (5, .int .i64 x.1)], []⟩) (fun x => x.1 ≤ l.length ∧ 0 ≤ x.2 ∧ x.2 ≤ 4294967296) (fun x => l.length - x.1) (0, n - l.length) ⟨Nat.zero_le _, by simp only; omega, by simp only; omega⟩ (by simp +contextual -dsimp only [↓SD, SU, simprocAttr]) trivial ?_
 rintro ⟨k, m⟩ ⟨hk, hm0, hm1⟩
 simp only at hk hm0 hm1
 by_cases hlt : k < l.length
 ·have e := getD_map av l k .top hlt
  have hbk : Ac.bulk l[k] ≤ 4294967296 := by have := AG (List.getElem_mem hlt); omega
  simp +contextual -dsimp only [↓SD, SU, simprocAttr, Aa, hlt, e, Ay]
  refine BB [] (AaY l[k] m hbk (by omega) hm1) (by simp +contextual -dsimp only [↓SD, SU, simprocAttr]) ?_
  rintro r hp' ⟨q, rfl, rfl, hq1, hq2⟩
  simp +contextual -dsimp only [↓SD, SU, simprocAttr]
  (repeat' (first | intro _ | refine And.intro ?_ ?_))
  all_goals first | omega | (refine Af.post [] ?_; simp +contextual -dsimp only [↓SD, SU, simprocAttr, Ee]; exact ⟨_, rfl, rfl, by omega, by omega⟩) | exact Af.le ⟨(k + 1, q), ⟨⟨hlt, by simp only; omega, hq2⟩, (by first | omega | (simp only; omega))⟩, rfl⟩ (by simp +contextual -dsimp only [↓SD, SU, simprocAttr, Int.natCast_add]) trivial
 ·obtain rfl : k = l.length := by omega
  simp +contextual -dsimp only [↓SD, SU, simprocAttr, Aa, Nat.lt_irrefl]
  refine Af.post [] ?_
  simp +contextual -dsimp only [↓SD, SU, simprocAttr, Ee]
  exact ⟨_, rfl, rfl, by omega, by omega⟩

theorem XC (l : List Node) (hx : Ac.bulk l ≤ 4294967296) : Ak Tryz.prog 21 [.sl (l.map av)] (.sl (l.map av)) := by
 have hl := Ag l
 refine Kb.F rfl (by simp; exact Ao l) (Ao l) ?_
 simp +contextual -dsimp only [↓SD, SU, simprocAttr, Kb, Aa]
 refine ⟨by omega, fun v => ?_⟩
 refine Am (X := Nat) (fun k => ⟨[(0, .sl (l.map av)), (3, .row 7 v l.length), (4, .int .i64 k)], [(7, ⟨v, false, 49, 6, FI l (AV.agg [.int .i64 0, .int .i64 0, .int .i64 0, .str (bs []), .Aj, .Aj]) k⟩)]⟩) (fun k => k ≤ l.length) (fun k => l.length - k) 0 (Nat.zero_le _) (by simp +contextual -dsimp only [↓SD, SU, simprocAttr]) (by simp +contextual -dsimp only [↓SD, SU, simprocAttr, Ea]) ?_
 intro k hk
 by_cases hlt : k < l.length
 ·have e := getD_map av l k .top hlt
  have e1 := Ct (AV.agg [.int .i64 0, .int .i64 0, .int .i64 0, .str (bs []), .Aj, .Aj]) hk
  have e2 := EV (AV.agg [.int .i64 0, .int .i64 0, .int .i64 0, .str (bs []), .Aj, .Aj]) hlt .top
  have e3 := EU (z := (AV.agg [.int .i64 0, .int .i64 0, .int .i64 0, .str (bs []), .Aj, .Aj])) hlt rfl
  have hbk : Ac.bulk l[k] ≤ 4294967296 := by have := AG (List.getElem_mem hlt); omega
  rw [Ay] at e3
  simp +contextual -dsimp only [↓SD, SU, simprocAttr, Aa, hlt, e, Ay]
  have C := AaT l[k] hbk
  rw [Ay] at C
  refine Ab _ C ?_
  simp +contextual -dsimp only [↓SD, SU, simprocAttr, Aa, hlt, e, Ay, e1, e2, e3]
  refine ⟨by omega, Af.le ⟨k + 1, ⟨hlt, (by first | omega | (simp only; omega))⟩, rfl⟩ (by simp +contextual -dsimp only [↓SD, SU, simprocAttr, Int.natCast_add]) (by simp +contextual -dsimp only [↓SD, SU, simprocAttr, e2, e3])⟩
 ·obtain rfl : k = l.length := by omega
  have e1 := Ct (AV.agg [.int .i64 0, .int .i64 0, .int .i64 0, .str (bs []), .Aj, .Aj]) hk
  simp +contextual -dsimp only [↓SD, SU, simprocAttr, Aa, Nat.lt_irrefl, Eb, AK, List.take_length]
  try simp [List.take_of_length_le]

theorem Yk (l : List Node) (hx : Ac.bulk l ≤ 4294967296) : Ak Tryz.prog 28 [.sl (l.map av), .sl (l.map av)] (.bool true) := by
 have hl := Ag l
 refine Ft.F rfl (by simp; exact Ao l) (Ae.bool _) ?_
 simp +contextual -dsimp only [↓SD, SU, simprocAttr, Ft, Aa]
 refine Am (X := Nat) (fun k => ⟨[(0, .sl (l.map av)), (1, .sl (l.map av)), (5, .int .i64 k)], []⟩) (fun k => k ≤ l.length) (fun k => l.length - k) 0 (Nat.zero_le _) (by simp +contextual -dsimp only [↓SD, SU, simprocAttr]) trivial ?_
 intro k hk
 by_cases hlt : k < l.length
 ·have e := getD_map av l k .top hlt
  have hbk : Ac.bulk l[k] ≤ 4294967296 := by have := AG (List.getElem_mem hlt); omega
  simp +contextual -dsimp only [↓SD, SU, simprocAttr, Aa, hlt, e, Ay]
  have C := Sp l[k] hbk
  rw [Ay] at C
  refine Ab _ C ?_
  simp +contextual -dsimp only [↓SD, SU, simprocAttr, Aa, hlt, e, Ay]
  exact ⟨by omega, Af.le ⟨k + 1, ⟨hlt, (by first | omega | (simp only; omega))⟩, rfl⟩ (by simp +contextual -dsimp only [↓SD, SU, simprocAttr, Int.natCast_add]) trivial⟩
 ·obtain rfl : k = l.length := by omega
  simp +contextual -dsimp only [↓SD, SU, simprocAttr, Aa, Nat.lt_irrefl]

theorem Tj (x : Program) (n : Int) (hx : Ac.bulk x ≤ 4294967296) (h1 : -1 ≤ n) (h2 : n ≤ 4294967296) : Mj 5 [av x, .int .i64 n] := by
 have hb : Ac.bulk x.types + Ac.bulk x.nodes + 1 ≤ 4294967296 := hx
 refine DF.H rfl ?_
 simp +contextual -dsimp only [↓SD, SU, simprocAttr, DF, Ad]
 (repeat' (first | intro _ | refine And.intro ?_ ?_))
 all_goals first | omega | (refine Af.post [] ?_; simp +contextual -dsimp only [↓SD, SU, simprocAttr, DF]; exact ⟨_, rfl, rfl, by omega, by omega⟩) | (refine BB [] (Ph x.types _ (by omega)  (by omega) (by omega)) (by simp +contextual -dsimp only [↓SD, SU, simprocAttr]) ?_; rintro r hp' ⟨m, rfl, rfl, hm1, hm2⟩; simp +contextual -dsimp only [↓SD, SU, simprocAttr]; (repeat' (first | intro _ | refine And.intro ?_ ?_))) | (refine BB [] (Pj x.nodes _ (by omega)  (by omega) (by omega)) (by simp +contextual -dsimp only [↓SD, SU, simprocAttr]) ?_; rintro r hp' ⟨m, rfl, rfl, hm1, hm2⟩; simp +contextual -dsimp only [↓SD, SU, simprocAttr]; (repeat' (first | intro _ | refine And.intro ?_ ?_)))
 all_goals first | omega | (refine Af.post [] ?_; simp +contextual -dsimp only [↓SD, SU, simprocAttr, DF]; exact ⟨_, rfl, rfl, by omega, by omega⟩) | (refine BB [] (Ph x.types _ (by omega)  (by omega) (by omega)) (by simp +contextual -dsimp only [↓SD, SU, simprocAttr]) ?_; rintro r hp' ⟨m, rfl, rfl, hm1, hm2⟩; simp +contextual -dsimp only [↓SD, SU, simprocAttr]; (repeat' (first | intro _ | refine And.intro ?_ ?_))) | (refine BB [] (Pj x.nodes _ (by omega)  (by omega) (by omega)) (by simp +contextual -dsimp only [↓SD, SU, simprocAttr]) ?_; rintro r hp' ⟨m, rfl, rfl, hm1, hm2⟩; simp +contextual -dsimp only [↓SD, SU, simprocAttr]; (repeat' (first | intro _ | refine And.intro ?_ ?_)))
 all_goals first | omega | (refine Af.post [] ?_; simp +contextual -dsimp only [↓SD, SU, simprocAttr, DF]; exact ⟨_, rfl, rfl, by omega, by omega⟩)

theorem Tf (x : Program) (hx : Ac.bulk x ≤ 4294967296) : Ak Tryz.prog 7 [av x] (av x) := by
 have hb : Ac.bulk x.types + Ac.bulk x.nodes + 1 ≤ 4294967296 := hx
 refine Ie.F rfl (by simp; exact AVal.clean x) (AVal.clean x) ?_
 simp +contextual -dsimp only [↓SD, SU, simprocAttr, Ie, Ad]
 (repeat' (first | intro _ | refine And.intro ?_ ?_))
 refine Ab _ (Xy x.types (by omega)) ?_
 simp +contextual -dsimp only [↓SD, SU, simprocAttr]
 (repeat' (first | intro _ | refine And.intro ?_ ?_))
 refine Ab _ (XC x.nodes (by omega)) ?_
 simp +contextual -dsimp only [↓SD, SU, simprocAttr]

theorem TX (x : Program) (hx : Ac.bulk x ≤ 4294967296) : Ak Tryz.prog 9 [av x, av x] (.bool true) := by
 have hb : Ac.bulk x.types + Ac.bulk x.nodes + 1 ≤ 4294967296 := hx
 refine Et.F rfl (by simp; exact AVal.clean x) (Ae.bool _) ?_
 simp +contextual -dsimp only [↓SD, SU, simprocAttr, Et, Ad, beq_self_eq_true]
 refine Ab _ (Qt x.types (by omega)) ?_
 simp +contextual -dsimp only [↓SD, SU, simprocAttr, beq_self_eq_true]
 refine Ab _ (Yk x.nodes (by omega)) ?_
 simp +contextual -dsimp only [↓SD, SU, simprocAttr, beq_self_eq_true]

end Go.Proofs.YtppjinmlfcokaaaGreat
