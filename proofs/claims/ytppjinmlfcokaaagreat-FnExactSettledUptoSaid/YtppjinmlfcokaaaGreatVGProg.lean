/-
 Con, Type, Node, Program BY ABSTRACT TEXTS: as abstract values, copies, comparisons, AJ. Conditions: none. Printed by genav.py.
-/
import Derived.Test.YtppjinmlfcokaaaGreatVJ01
import Derived.Test.YtppjinmlfcokaaaGreatVJ08
set_option linter.unusedVariables false
set_option linter.unusedSimpArgs false
set_option maxRecDepth 100000
namespace Go.Proofs.YtppjinmlfcokaaaGreat
open Go.RowKit Go.Proofs.YtppjinmlfcokaaaGreat.Av Go.Proofs.YtppjinmlfcokaaaGreat.Ml
open Go.Proofs.YtppjinmlfcokaaaGreat.Av.AVal (av)

instance : AVal Con := ⟨fun x => .agg [.str x.name, .bool x.has, .sl (x.arg.items.map av)], 3, fun _ => rfl, fun _ => rfl, fun x y hy => by
 simp only [AV.cells, List.mem_cons, List.not_mem_nil, or_false] at hy
 rcases hy with rfl | rfl | rfl <;> first | exact Ad.int _ _ | exact Ad.str _ | exact Ad.bool _ | exact Ak x.arg.items, fun _ _ => rfl, fun x y hy => by
 simp only [AV.cells, List.mem_cons, List.not_mem_nil, or_false] at hy
 rcases hy with rfl | rfl | rfl <;> rfl⟩
theorem Ck (x : Con) : av x = .agg [.str x.name, .bool x.has, .sl (x.arg.items.map av)] := eqq rfl
instance : Ge Con := ⟨fun {S w cs y} h => by
 obtain ⟨v2, rfl, h0, r2⟩ := h
 exact VRs.cons (.str _ h0) (VRs.cons (.bool _) (VRs.cons (Fi r2) (VRs.nil)))⟩

instance : AVal BF := ⟨fun x => .agg [.str x.name, .int .i64 x.params, .sl (x.cons.map av)], 3, fun _ => rfl, fun _ => rfl, fun x y hy => by
 simp only [AV.cells, List.mem_cons, List.not_mem_nil, or_false] at hy
 rcases hy with rfl | rfl | rfl <;> first | exact Ad.int _ _ | exact Ad.str _ | exact Ad.bool _ | exact Ak x.cons, fun _ _ => rfl, fun x y hy => by
 simp only [AV.cells, List.mem_cons, List.not_mem_nil, or_false] at hy
 rcases hy with rfl | rfl | rfl <;> rfl⟩
theorem BE (x : BF) : av x = .agg [.str x.name, .int .i64 x.params, .sl (x.cons.map av)] := eqq rfl
instance : Ge BF := ⟨fun {S w cs y} h => by
 obtain ⟨v2, rfl, h0, h1, r2⟩ := h
 exact VRs.cons (.str _ h0) (VRs.cons (.int _ _ h1.1 h1.2) (VRs.cons (Fi r2) (VRs.nil)))⟩

instance : AVal Node := ⟨fun x => .agg [.int .i64 x.kind, .int .i64 x.pos, .int .i64 x.n, .str x.s, .sl (x.kids.map av), .sl (x.Ae.map av)], 6, fun _ => rfl, fun _ => rfl, fun x y hy => by
 simp only [AV.cells, List.mem_cons, List.not_mem_nil, or_false] at hy
 rcases hy with rfl | rfl | rfl | rfl | rfl | rfl <;> first | exact Ad.int _ _ | exact Ad.str _ | exact Ad.bool _ | exact Ak x.kids | exact Ak x.Ae, fun _ _ => rfl, fun x y hy => by
 simp only [AV.cells, List.mem_cons, List.not_mem_nil, or_false] at hy
 rcases hy with rfl | rfl | rfl | rfl | rfl | rfl <;> rfl⟩
theorem As (x : Node) : av x = .agg [.int .i64 x.kind, .int .i64 x.pos, .int .i64 x.n, .str x.s, .sl (x.kids.map av), .sl (x.Ae.map av)] := eqq rfl
instance : Ge Node := ⟨fun {S w cs y} h => by
 obtain ⟨v4, v5, rfl, h0, h1, h2, h3, r4, r5⟩ := h
 exact VRs.cons (.int _ _ h0.1 h0.2) (VRs.cons (.int _ _ h1.1 h1.2) (VRs.cons (.int _ _ h2.1 h2.2) (VRs.cons (.str _ h3) (VRs.cons (Fi r4) (VRs.cons (Fi r5) (VRs.nil))))))⟩

instance : AVal Program := ⟨fun x => .agg [.sl (x.types.map av), .sl (x.nodes.map av)], 2, fun _ => rfl, fun _ => rfl, fun x y hy => by
 simp only [AV.cells, List.mem_cons, List.not_mem_nil, or_false] at hy
 rcases hy with rfl | rfl <;> first | exact Ad.int _ _ | exact Ad.str _ | exact Ad.bool _ | exact Ak x.types | exact Ak x.nodes, fun _ _ => rfl, fun x y hy => by
 simp only [AV.cells, List.mem_cons, List.not_mem_nil, or_false] at hy
 rcases hy with rfl | rfl <;> rfl⟩
theorem Ag (x : Program) : av x = .agg [.sl (x.types.map av), .sl (x.nodes.map av)] := eqq rfl
instance : Ge Program := ⟨fun {S w cs y} h => by
 obtain ⟨v0, v1, rfl, r0, r1⟩ := h
 exact VRs.cons (Fi r0) (VRs.cons (Fi r1) (VRs.nil))⟩

theorem Acw (x : Con) (n : Int) (hx : Ac.bulk x ≤ 4294967296) (h1 : -1 ≤ n) (h2 : n ≤ 4294967296) : L1 140 [av x, .int .i64 n] := by
 have hb : Ac.bulk x.name + Ac.bulk x.has + Ac.bulk x.arg + 1 ≤ 4294967296 := hx
 have e0 : Ac.bulk x.name = x.name.size + 1 := rfl
 refine GD.H rfl ?_
 simp +contextual -dsimp only [↓SD, SU, simprocAttr, GD, Ck]
 (repeat' (first | intro _ | refine And.intro ?_ ?_))
 all_goals first | omega | (refine Af.post [] ?_; simp +contextual -dsimp only [↓SD, SU, simprocAttr, GD]; exact ⟨_, rfl, rfl, by omega, by omega⟩) | (refine Bx [] (Aet x.arg _ (by omega)  (by omega) (by omega)) (by simp +contextual -dsimp only [↓SD, SU, simprocAttr]) ?_; rintro r hp' ⟨m, rfl, rfl, hm1, hm2⟩; simp +contextual -dsimp only [↓SD, SU, simprocAttr]; (repeat' (first | intro _ | refine And.intro ?_ ?_)))
 all_goals first | omega | (refine Af.post [] ?_; simp +contextual -dsimp only [↓SD, SU, simprocAttr, GD]; exact ⟨_, rfl, rfl, by omega, by omega⟩)

theorem Acs (x : Con) (hx : Ac.bulk x ≤ 4294967296) : Ah Tryz.prog 150 [av x] (av x) := by
 have hb : Ac.bulk x.name + Ac.bulk x.has + Ac.bulk x.arg + 1 ≤ 4294967296 := hx
 refine Ln.F rfl (by simp; exact AVal.clean x) (AVal.clean x) ?_
 simp +contextual -dsimp only [↓SD, SU, simprocAttr, Ln, Ck]
 (repeat' (first | intro _ | refine And.intro ?_ ?_))
 have C := Aes x.arg (by omega)
 rw [SV] at C
 refine Aa _ C ?_
 clear C
 simp +contextual -dsimp only [↓SD, SU, simprocAttr]

theorem AdK (x : Con) (hx : Ac.bulk x ≤ 4294967296) : Ah Tryz.prog 166 [av x, av x] (.bool true) := by
 have hb : Ac.bulk x.name + Ac.bulk x.has + Ac.bulk x.arg + 1 ≤ 4294967296 := hx
 refine Lp.F rfl (by simp; exact AVal.clean x) (Ad.bool _) ?_
 simp +contextual -dsimp only [↓SD, SU, simprocAttr, Lp, Ck, beq_self_eq_true]
 have C := AeZ x.arg (by omega)
 rw [SV] at C
 refine Aa _ C ?_
 clear C
 simp +contextual -dsimp only [↓SD, SU, simprocAttr, beq_self_eq_true]

theorem Abn (l : List Con) (n : Int) (hx : Ac.bulk l ≤ 4294967296) (h1 : -1 ≤ n) (h2 : n ≤ 4294967296) : L1 76 [.sl (l.map av), .int .i64 n] := by
 have hl := Ai l
 refine EG.H rfl ?_
 simp +contextual -dsimp only [↓SD, SU, simprocAttr, EG, Ab]
 refine ⟨by omega, fun h => ?_, fun h => ?_⟩
 ·refine Af.post [] ?_; simp +contextual -dsimp only [↓SD, SU, simprocAttr, EG]; exact ⟨_, rfl, rfl, by omega, by omega⟩
 refine Am (X := Nat × Int) (fun x => ⟨[(0, .sl (l.map av)), (1, .int .i64 x.2), (5, .int .i64 x.1)], []⟩) (fun x => x.1 ≤ l.length ∧ 0 ≤ x.2 ∧ x.2 ≤ 4294967296) (fun x => l.length - x.1) (0, n - l.length) ⟨Nat.zero_le _, by simp only; omega, by simp only; omega⟩ (by simp +contextual -dsimp only [↓SD, SU, simprocAttr]) trivial ?_
 rintro ⟨k, m⟩ ⟨hk, hm0, hm1⟩
 simp only at hk hm0 hm1
 by_cases hlt : k < l.length
 ·have e := getD_map av l k .top hlt
  have hbk : Ac.bulk l[k] ≤ 4294967296 := by have := Au (List.getElem_mem hlt); omega
  simp +contextual -dsimp only [↓SD, SU, simprocAttr, Ab, hlt, e, Ck]
  refine Bx [] (Acw l[k] m hbk (by omega) hm1) (by simp +contextual -dsimp only [↓SD, SU, simprocAttr]) ?_
  rintro r hp' ⟨q, rfl, rfl, hq1, hq2⟩
  simp +contextual -dsimp only [↓SD, SU, simprocAttr]
  (repeat' (first | intro _ | refine And.intro ?_ ?_))
  all_goals first | omega | (refine Af.post [] ?_; simp +contextual -dsimp only [↓SD, SU, simprocAttr, EG]; exact ⟨_, rfl, rfl, by omega, by omega⟩) | exact Af.le ⟨(k + 1, q), ⟨⟨hlt, by simp only; omega, hq2⟩, (by first | omega | (simp only; omega))⟩, rfl⟩ (by simp +contextual -dsimp only [↓SD, SU, simprocAttr, Int.natCast_add]) trivial
 ·obtain rfl : k = l.length := by omega
  simp +contextual -dsimp only [↓SD, SU, simprocAttr, Ab, Nat.lt_irrefl]
  refine Af.post [] ?_
  simp +contextual -dsimp only [↓SD, SU, simprocAttr, EG]
  exact ⟨_, rfl, rfl, by omega, by omega⟩

theorem Abj (l : List Con) (hx : Ac.bulk l ≤ 4294967296) : Ah Tryz.prog 89 [.sl (l.map av)] (.sl (l.map av)) := by
 have hl := Ai l
 refine Ku.F rfl (by simp; exact Ak l) (Ak l) ?_
 simp +contextual -dsimp only [↓SD, SU, simprocAttr, Ku, Ab]
 refine ⟨by omega, fun v => ?_⟩
 refine Am (X := Nat) (fun k => ⟨[(0, .sl (l.map av)), (3, .row 7 v l.length), (4, .int .i64 k)], [(7, ⟨v, false, 77, 3, Gi l (AV.agg [.str (bs []), .bool false, .An]) k⟩)]⟩) (fun k => k ≤ l.length) (fun k => l.length - k) 0 (Nat.zero_le _) (by simp +contextual -dsimp only [↓SD, SU, simprocAttr]) (by simp +contextual -dsimp only [↓SD, SU, simprocAttr, FA]) ?_
 intro k hk
 by_cases hlt : k < l.length
 ·have e := getD_map av l k .top hlt
  have e1 := Dg (AV.agg [.str (bs []), .bool false, .An]) hk
  have e2 := Gw (AV.agg [.str (bs []), .bool false, .An]) hlt .top
  have e3 := Gv (z := (AV.agg [.str (bs []), .bool false, .An])) hlt rfl
  have hbk : Ac.bulk l[k] ≤ 4294967296 := by have := Au (List.getElem_mem hlt); omega
  rw [Ck] at e3
  simp +contextual -dsimp only [↓SD, SU, simprocAttr, Ab, hlt, e, Ck]
  have C := Acs l[k] hbk
  rw [Ck] at C
  refine Aa _ C ?_
  simp +contextual -dsimp only [↓SD, SU, simprocAttr, Ab, hlt, e, Ck, e1, e2, e3]
  refine ⟨by omega, Af.le ⟨k + 1, ⟨hlt, (by first | omega | (simp only; omega))⟩, rfl⟩ (by simp +contextual -dsimp only [↓SD, SU, simprocAttr, Int.natCast_add]) (by simp +contextual -dsimp only [↓SD, SU, simprocAttr, e2, e3])⟩
 ·obtain rfl : k = l.length := by omega
  have e1 := Dg (AV.agg [.str (bs []), .bool false, .An]) hk
  simp +contextual -dsimp only [↓SD, SU, simprocAttr, Ab, Nat.lt_irrefl, FB, AB, List.take_length]
  try simp [List.take_of_length_le]

theorem AbY (l : List Con) (hx : Ac.bulk l ≤ 4294967296) : Ah Tryz.prog 122 [.sl (l.map av), .sl (l.map av)] (.bool true) := by
 have hl := Ai l
 refine Kz.F rfl (by simp; exact Ak l) (Ad.bool _) ?_
 simp +contextual -dsimp only [↓SD, SU, simprocAttr, Kz, Ab]
 refine Am (X := Nat) (fun k => ⟨[(0, .sl (l.map av)), (1, .sl (l.map av)), (5, .int .i64 k)], []⟩) (fun k => k ≤ l.length) (fun k => l.length - k) 0 (Nat.zero_le _) (by simp +contextual -dsimp only [↓SD, SU, simprocAttr]) trivial ?_
 intro k hk
 by_cases hlt : k < l.length
 ·have e := getD_map av l k .top hlt
  have hbk : Ac.bulk l[k] ≤ 4294967296 := by have := Au (List.getElem_mem hlt); omega
  simp +contextual -dsimp only [↓SD, SU, simprocAttr, Ab, hlt, e, Ck]
  have C := AdK l[k] hbk
  rw [Ck] at C
  refine Aa _ C ?_
  simp +contextual -dsimp only [↓SD, SU, simprocAttr, Ab, hlt, e, Ck]
  exact ⟨by omega, Af.le ⟨k + 1, ⟨hlt, (by first | omega | (simp only; omega))⟩, rfl⟩ (by simp +contextual -dsimp only [↓SD, SU, simprocAttr, Int.natCast_add]) trivial⟩
 ·obtain rfl : k = l.length := by omega
  simp +contextual -dsimp only [↓SD, SU, simprocAttr, Ab, Nat.lt_irrefl]

theorem Abl (x : BF) (n : Int) (hx : Ac.bulk x ≤ 4294967296) (h1 : -1 ≤ n) (h2 : n ≤ 4294967296) : L1 38 [av x, .int .i64 n] := by
 have hb : Ac.bulk x.name + Ac.bulk x.params + Ac.bulk x.cons + 1 ≤ 4294967296 := hx
 have e0 : Ac.bulk x.name = x.name.size + 1 := rfl
 refine F2.H rfl ?_
 simp +contextual -dsimp only [↓SD, SU, simprocAttr, F2, BE]
 (repeat' (first | intro _ | refine And.intro ?_ ?_))
 all_goals first | omega | (refine Af.post [] ?_; simp +contextual -dsimp only [↓SD, SU, simprocAttr, F2]; exact ⟨_, rfl, rfl, by omega, by omega⟩) | (refine Bx [] (Abn x.cons _ (by omega)  (by omega) (by omega)) (by simp +contextual -dsimp only [↓SD, SU, simprocAttr]) ?_; rintro r hp' ⟨m, rfl, rfl, hm1, hm2⟩; simp +contextual -dsimp only [↓SD, SU, simprocAttr]; (repeat' (first | intro _ | refine And.intro ?_ ?_)))
 all_goals first | omega | (refine Af.post [] ?_; simp +contextual -dsimp only [↓SD, SU, simprocAttr, F2]; exact ⟨_, rfl, rfl, by omega, by omega⟩)

theorem Abg (x : BF) (hx : Ac.bulk x ≤ 4294967296) : Ah Tryz.prog 45 [av x] (av x) := by
 have hb : Ac.bulk x.name + Ac.bulk x.params + Ac.bulk x.cons + 1 ≤ 4294967296 := hx
 refine Kq.F rfl (by simp; exact AVal.clean x) (AVal.clean x) ?_
 simp +contextual -dsimp only [↓SD, SU, simprocAttr, Kq, BE]
 (repeat' (first | intro _ | refine And.intro ?_ ?_))
 refine Aa _ (Abj x.cons (by omega)) ?_
 simp +contextual -dsimp only [↓SD, SU, simprocAttr]

theorem AbV (x : BF) (hx : Ac.bulk x ≤ 4294967296) : Ah Tryz.prog 59 [av x, av x] (.bool true) := by
 have hb : Ac.bulk x.name + Ac.bulk x.params + Ac.bulk x.cons + 1 ≤ 4294967296 := hx
 refine Kv.F rfl (by simp; exact AVal.clean x) (Ad.bool _) ?_
 simp +contextual -dsimp only [↓SD, SU, simprocAttr, Kv, BE, beq_self_eq_true]
 refine Aa _ (AbY x.cons (by omega)) ?_
 simp +contextual -dsimp only [↓SD, SU, simprocAttr, beq_self_eq_true]

theorem Abm (x : Node) (n : Int) (hx : Ac.bulk x ≤ 4294967296) (h1 : -1 ≤ n) (h2 : n ≤ 4294967296) : L1 39 [av x, .int .i64 n] := by
 have hb : Ac.bulk x.kind + Ac.bulk x.pos + Ac.bulk x.n + Ac.bulk x.s + Ac.bulk x.kids + Ac.bulk x.Ae + 1 ≤ 4294967296 := hx
 have e3 : Ac.bulk x.s = x.s.size + 1 := rfl
 refine EF.H rfl ?_
 simp +contextual -dsimp only [↓SD, SU, simprocAttr, EF, As]
 (repeat' (first | intro _ | refine And.intro ?_ ?_))
 all_goals first | omega | (refine Af.post [] ?_; simp +contextual -dsimp only [↓SD, SU, simprocAttr, EF]; exact ⟨_, rfl, rfl, by omega, by omega⟩) | (refine Bx [] (Nl x.kids _ (by omega)  (by omega) (by omega)) (by simp +contextual -dsimp only [↓SD, SU, simprocAttr]) ?_; rintro r hp' ⟨m, rfl, rfl, hm1, hm2⟩; simp +contextual -dsimp only [↓SD, SU, simprocAttr]; (repeat' (first | intro _ | refine And.intro ?_ ?_))) | (refine Bx [] (Rj x.Ae _ (by omega)  (by omega) (by omega)) (by simp +contextual -dsimp only [↓SD, SU, simprocAttr]) ?_; rintro r hp' ⟨m, rfl, rfl, hm1, hm2⟩; simp +contextual -dsimp only [↓SD, SU, simprocAttr]; (repeat' (first | intro _ | refine And.intro ?_ ?_)))
 all_goals first | omega | (refine Af.post [] ?_; simp +contextual -dsimp only [↓SD, SU, simprocAttr, EF]; exact ⟨_, rfl, rfl, by omega, by omega⟩) | (refine Bx [] (Nl x.kids _ (by omega)  (by omega) (by omega)) (by simp +contextual -dsimp only [↓SD, SU, simprocAttr]) ?_; rintro r hp' ⟨m, rfl, rfl, hm1, hm2⟩; simp +contextual -dsimp only [↓SD, SU, simprocAttr]; (repeat' (first | intro _ | refine And.intro ?_ ?_))) | (refine Bx [] (Rj x.Ae _ (by omega)  (by omega) (by omega)) (by simp +contextual -dsimp only [↓SD, SU, simprocAttr]) ?_; rintro r hp' ⟨m, rfl, rfl, hm1, hm2⟩; simp +contextual -dsimp only [↓SD, SU, simprocAttr]; (repeat' (first | intro _ | refine And.intro ?_ ?_)))
 all_goals first | omega | (refine Af.post [] ?_; simp +contextual -dsimp only [↓SD, SU, simprocAttr, EF]; exact ⟨_, rfl, rfl, by omega, by omega⟩)

theorem Abi (x : Node) (hx : Ac.bulk x ≤ 4294967296) : Ah Tryz.prog 46 [av x] (av x) := by
 have hb : Ac.bulk x.kind + Ac.bulk x.pos + Ac.bulk x.n + Ac.bulk x.s + Ac.bulk x.kids + Ac.bulk x.Ae + 1 ≤ 4294967296 := hx
 refine Ks.F rfl (by simp; exact AVal.clean x) (AVal.clean x) ?_
 simp +contextual -dsimp only [↓SD, SU, simprocAttr, Ks, As]
 (repeat' (first | intro _ | refine And.intro ?_ ?_))
 refine Aa _ (Ri x.kids (by omega)) ?_
 simp +contextual -dsimp only [↓SD, SU, simprocAttr]
 (repeat' (first | intro _ | refine And.intro ?_ ?_))
 refine Aa _ (Abh x.Ae (by omega)) ?_
 simp +contextual -dsimp only [↓SD, SU, simprocAttr]

theorem AbX (x : Node) (hx : Ac.bulk x ≤ 4294967296) : Ah Tryz.prog 60 [av x, av x] (.bool true) := by
 have hb : Ac.bulk x.kind + Ac.bulk x.pos + Ac.bulk x.n + Ac.bulk x.s + Ac.bulk x.kids + Ac.bulk x.Ae + 1 ≤ 4294967296 := hx
 refine Kx.F rfl (by simp; exact AVal.clean x) (Ad.bool _) ?_
 simp +contextual -dsimp only [↓SD, SU, simprocAttr, Kx, As, beq_self_eq_true]
 refine Aa _ (Sq x.kids (by omega)) ?_
 simp +contextual -dsimp only [↓SD, SU, simprocAttr, beq_self_eq_true]
 refine Aa _ (AbW x.Ae (by omega)) ?_
 simp +contextual -dsimp only [↓SD, SU, simprocAttr, beq_self_eq_true]

theorem O6 (l : List BF) (n : Int) (hx : Ac.bulk l ≤ 4294967296) (h1 : -1 ≤ n) (h2 : n ≤ 4294967296) : L1 14 [.sl (l.map av), .int .i64 n] := by
 have hl := Ai l
 refine Ej.H rfl ?_
 simp +contextual -dsimp only [↓SD, SU, simprocAttr, Ej, Ab]
 refine ⟨by omega, fun h => ?_, fun h => ?_⟩
 ·refine Af.post [] ?_; simp +contextual -dsimp only [↓SD, SU, simprocAttr, Ej]; exact ⟨_, rfl, rfl, by omega, by omega⟩
 refine Am (X := Nat × Int) (fun x => ⟨[(0, .sl (l.map av)), (1, .int .i64 x.2), (5, .int .i64 x.1)], []⟩) (fun x => x.1 ≤ l.length ∧ 0 ≤ x.2 ∧ x.2 ≤ 4294967296) (fun x => l.length - x.1) (0, n - l.length) ⟨Nat.zero_le _, by simp only; omega, by simp only; omega⟩ (by simp +contextual -dsimp only [↓SD, SU, simprocAttr]) trivial ?_
 rintro ⟨k, m⟩ ⟨hk, hm0, hm1⟩
 simp only at hk hm0 hm1
 by_cases hlt : k < l.length
 ·have e := getD_map av l k .top hlt
  have hbk : Ac.bulk l[k] ≤ 4294967296 := by have := Au (List.getElem_mem hlt); omega
  simp +contextual -dsimp only [↓SD, SU, simprocAttr, Ab, hlt, e, BE]
  refine Bx [] (Abl l[k] m hbk (by omega) hm1) (by simp +contextual -dsimp only [↓SD, SU, simprocAttr]) ?_
  rintro r hp' ⟨q, rfl, rfl, hq1, hq2⟩
  simp +contextual -dsimp only [↓SD, SU, simprocAttr]
  (repeat' (first | intro _ | refine And.intro ?_ ?_))
  all_goals first | omega | (refine Af.post [] ?_; simp +contextual -dsimp only [↓SD, SU, simprocAttr, Ej]; exact ⟨_, rfl, rfl, by omega, by omega⟩) | exact Af.le ⟨(k + 1, q), ⟨⟨hlt, by simp only; omega, hq2⟩, (by first | omega | (simp only; omega))⟩, rfl⟩ (by simp +contextual -dsimp only [↓SD, SU, simprocAttr, Int.natCast_add]) trivial
 ·obtain rfl : k = l.length := by omega
  simp +contextual -dsimp only [↓SD, SU, simprocAttr, Ab, Nat.lt_irrefl]
  refine Af.post [] ?_
  simp +contextual -dsimp only [↓SD, SU, simprocAttr, Ej]
  exact ⟨_, rfl, rfl, by omega, by omega⟩

theorem XD (l : List BF) (hx : Ac.bulk l ≤ 4294967296) : Ah Tryz.prog 20 [.sl (l.map av)] (.sl (l.map av)) := by
 have hl := Ai l
 refine JL.F rfl (by simp; exact Ak l) (Ak l) ?_
 simp +contextual -dsimp only [↓SD, SU, simprocAttr, JL, Ab]
 refine ⟨by omega, fun v => ?_⟩
 refine Am (X := Nat) (fun k => ⟨[(0, .sl (l.map av)), (3, .row 7 v l.length), (4, .int .i64 k)], [(7, ⟨v, false, 72, 3, Gi l (AV.agg [.str (bs []), .int .i64 0, .An]) k⟩)]⟩) (fun k => k ≤ l.length) (fun k => l.length - k) 0 (Nat.zero_le _) (by simp +contextual -dsimp only [↓SD, SU, simprocAttr]) (by simp +contextual -dsimp only [↓SD, SU, simprocAttr, FA]) ?_
 intro k hk
 by_cases hlt : k < l.length
 ·have e := getD_map av l k .top hlt
  have e1 := Dg (AV.agg [.str (bs []), .int .i64 0, .An]) hk
  have e2 := Gw (AV.agg [.str (bs []), .int .i64 0, .An]) hlt .top
  have e3 := Gv (z := (AV.agg [.str (bs []), .int .i64 0, .An])) hlt rfl
  have hbk : Ac.bulk l[k] ≤ 4294967296 := by have := Au (List.getElem_mem hlt); omega
  rw [BE] at e3
  simp +contextual -dsimp only [↓SD, SU, simprocAttr, Ab, hlt, e, BE]
  have C := Abg l[k] hbk
  rw [BE] at C
  refine Aa _ C ?_
  simp +contextual -dsimp only [↓SD, SU, simprocAttr, Ab, hlt, e, BE, e1, e2, e3]
  refine ⟨by omega, Af.le ⟨k + 1, ⟨hlt, (by first | omega | (simp only; omega))⟩, rfl⟩ (by simp +contextual -dsimp only [↓SD, SU, simprocAttr, Int.natCast_add]) (by simp +contextual -dsimp only [↓SD, SU, simprocAttr, e2, e3])⟩
 ·obtain rfl : k = l.length := by omega
  have e1 := Dg (AV.agg [.str (bs []), .int .i64 0, .An]) hk
  simp +contextual -dsimp only [↓SD, SU, simprocAttr, Ab, Nat.lt_irrefl, FB, AB, List.take_length]
  try simp [List.take_of_length_le]

theorem Yw (l : List BF) (hx : Ac.bulk l ≤ 4294967296) : Ah Tryz.prog 27 [.sl (l.map av), .sl (l.map av)] (.bool true) := by
 have hl := Ai l
 refine JO.F rfl (by simp; exact Ak l) (Ad.bool _) ?_
 simp +contextual -dsimp only [↓SD, SU, simprocAttr, JO, Ab]
 refine Am (X := Nat) (fun k => ⟨[(0, .sl (l.map av)), (1, .sl (l.map av)), (5, .int .i64 k)], []⟩) (fun k => k ≤ l.length) (fun k => l.length - k) 0 (Nat.zero_le _) (by simp +contextual -dsimp only [↓SD, SU, simprocAttr]) trivial ?_
 intro k hk
 by_cases hlt : k < l.length
 ·have e := getD_map av l k .top hlt
  have hbk : Ac.bulk l[k] ≤ 4294967296 := by have := Au (List.getElem_mem hlt); omega
  simp +contextual -dsimp only [↓SD, SU, simprocAttr, Ab, hlt, e, BE]
  have C := AbV l[k] hbk
  rw [BE] at C
  refine Aa _ C ?_
  simp +contextual -dsimp only [↓SD, SU, simprocAttr, Ab, hlt, e, BE]
  exact ⟨by omega, Af.le ⟨k + 1, ⟨hlt, (by first | omega | (simp only; omega))⟩, rfl⟩ (by simp +contextual -dsimp only [↓SD, SU, simprocAttr, Int.natCast_add]) trivial⟩
 ·obtain rfl : k = l.length := by omega
  simp +contextual -dsimp only [↓SD, SU, simprocAttr, Ab, Nat.lt_irrefl]

theorem O7 (l : List Node) (n : Int) (hx : Ac.bulk l ≤ 4294967296) (h1 : -1 ≤ n) (h2 : n ≤ 4294967296) : L1 15 [.sl (l.map av), .int .i64 n] := by
 have hl := Ai l
 refine Ek.H rfl ?_
 simp +contextual -dsimp only [↓SD, SU, simprocAttr, Ek, Ab]
 refine ⟨by omega, fun h => ?_, fun h => ?_⟩
 ·refine Af.post [] ?_; simp +contextual -dsimp only [↓SD, SU, simprocAttr, Ek]; exact ⟨_, rfl, rfl, by omega, by omega⟩
 refine Am (X := Nat × Int) (fun x => ⟨[(0, .sl (l.map av)), (1, .int .i64 x.2), (5, .int .i64 x.1)], []⟩) (fun x => x.1 ≤ l.length ∧ 0 ≤ x.2 ∧ x.2 ≤ 4294967296) (fun x => l.length - x.1) (0, n - l.length) ⟨Nat.zero_le _, by simp only; omega, by simp only; omega⟩ (by simp +contextual -dsimp only [↓SD, SU, simprocAttr]) trivial ?_
 rintro ⟨k, m⟩ ⟨hk, hm0, hm1⟩
 simp only at hk hm0 hm1
 by_cases hlt : k < l.length
 ·have e := getD_map av l k .top hlt
  have hbk : Ac.bulk l[k] ≤ 4294967296 := by have := Au (List.getElem_mem hlt); omega
  simp +contextual -dsimp only [↓SD, SU, simprocAttr, Ab, hlt, e, As]
  refine Bx [] (Abm l[k] m hbk (by omega) hm1) (by simp +contextual -dsimp only [↓SD, SU, simprocAttr]) ?_
  rintro r hp' ⟨q, rfl, rfl, hq1, hq2⟩
  simp +contextual -dsimp only [↓SD, SU, simprocAttr]
  (repeat' (first | intro _ | refine And.intro ?_ ?_))
  all_goals first | omega | (refine Af.post [] ?_; simp +contextual -dsimp only [↓SD, SU, simprocAttr, Ek]; exact ⟨_, rfl, rfl, by omega, by omega⟩) | exact Af.le ⟨(k + 1, q), ⟨⟨hlt, by simp only; omega, hq2⟩, (by first | omega | (simp only; omega))⟩, rfl⟩ (by simp +contextual -dsimp only [↓SD, SU, simprocAttr, Int.natCast_add]) trivial
 ·obtain rfl : k = l.length := by omega
  simp +contextual -dsimp only [↓SD, SU, simprocAttr, Ab, Nat.lt_irrefl]
  refine Af.post [] ?_
  simp +contextual -dsimp only [↓SD, SU, simprocAttr, Ek]
  exact ⟨_, rfl, rfl, by omega, by omega⟩

theorem XF (l : List Node) (hx : Ac.bulk l ≤ 4294967296) : Ah Tryz.prog 21 [.sl (l.map av)] (.sl (l.map av)) := by
 have hl := Ai l
 refine JN.F rfl (by simp; exact Ak l) (Ak l) ?_
 simp +contextual -dsimp only [↓SD, SU, simprocAttr, JN, Ab]
 refine ⟨by omega, fun v => ?_⟩
 refine Am (X := Nat) (fun k => ⟨[(0, .sl (l.map av)), (3, .row 7 v l.length), (4, .int .i64 k)], [(7, ⟨v, false, 49, 6, Gi l (AV.agg [.int .i64 0, .int .i64 0, .int .i64 0, .str (bs []), .An, .An]) k⟩)]⟩) (fun k => k ≤ l.length) (fun k => l.length - k) 0 (Nat.zero_le _) (by simp +contextual -dsimp only [↓SD, SU, simprocAttr]) (by simp +contextual -dsimp only [↓SD, SU, simprocAttr, FA]) ?_
 intro k hk
 by_cases hlt : k < l.length
 ·have e := getD_map av l k .top hlt
  have e1 := Dg (AV.agg [.int .i64 0, .int .i64 0, .int .i64 0, .str (bs []), .An, .An]) hk
  have e2 := Gw (AV.agg [.int .i64 0, .int .i64 0, .int .i64 0, .str (bs []), .An, .An]) hlt .top
  have e3 := Gv (z := (AV.agg [.int .i64 0, .int .i64 0, .int .i64 0, .str (bs []), .An, .An])) hlt rfl
  have hbk : Ac.bulk l[k] ≤ 4294967296 := by have := Au (List.getElem_mem hlt); omega
  rw [As] at e3
  simp +contextual -dsimp only [↓SD, SU, simprocAttr, Ab, hlt, e, As]
  have C := Abi l[k] hbk
  rw [As] at C
  refine Aa _ C ?_
  simp +contextual -dsimp only [↓SD, SU, simprocAttr, Ab, hlt, e, As, e1, e2, e3]
  refine ⟨by omega, Af.le ⟨k + 1, ⟨hlt, (by first | omega | (simp only; omega))⟩, rfl⟩ (by simp +contextual -dsimp only [↓SD, SU, simprocAttr, Int.natCast_add]) (by simp +contextual -dsimp only [↓SD, SU, simprocAttr, e2, e3])⟩
 ·obtain rfl : k = l.length := by omega
  have e1 := Dg (AV.agg [.int .i64 0, .int .i64 0, .int .i64 0, .str (bs []), .An, .An]) hk
  simp +contextual -dsimp only [↓SD, SU, simprocAttr, Ab, Nat.lt_irrefl, FB, AB, List.take_length]
  try simp [List.take_of_length_le]

theorem Yy (l : List Node) (hx : Ac.bulk l ≤ 4294967296) : Ah Tryz.prog 28 [.sl (l.map av), .sl (l.map av)] (.bool true) := by
 have hl := Ai l
 refine JQ.F rfl (by simp; exact Ak l) (Ad.bool _) ?_
 simp +contextual -dsimp only [↓SD, SU, simprocAttr, JQ, Ab]
 refine Am (X := Nat) (fun k => ⟨[(0, .sl (l.map av)), (1, .sl (l.map av)), (5, .int .i64 k)], []⟩) (fun k => k ≤ l.length) (fun k => l.length - k) 0 (Nat.zero_le _) (by simp +contextual -dsimp only [↓SD, SU, simprocAttr]) trivial ?_
 intro k hk
 by_cases hlt : k < l.length
 ·have e := getD_map av l k .top hlt
  have hbk : Ac.bulk l[k] ≤ 4294967296 := by have := Au (List.getElem_mem hlt); omega
  simp +contextual -dsimp only [↓SD, SU, simprocAttr, Ab, hlt, e, As]
  have C := AbX l[k] hbk
  rw [As] at C
  refine Aa _ C ?_
  simp +contextual -dsimp only [↓SD, SU, simprocAttr, Ab, hlt, e, As]
  exact ⟨by omega, Af.le ⟨k + 1, ⟨hlt, (by first | omega | (simp only; omega))⟩, rfl⟩ (by simp +contextual -dsimp only [↓SD, SU, simprocAttr, Int.natCast_add]) trivial⟩
 ·obtain rfl : k = l.length := by omega
  simp +contextual -dsimp only [↓SD, SU, simprocAttr, Ab, Nat.lt_irrefl]

theorem Tl (x : Program) (n : Int) (hx : Ac.bulk x ≤ 4294967296) (h1 : -1 ≤ n) (h2 : n ≤ 4294967296) : L1 5 [av x, .int .i64 n] := by
 have hb : Ac.bulk x.types + Ac.bulk x.nodes + 1 ≤ 4294967296 := hx
 refine DM.H rfl ?_
 simp +contextual -dsimp only [↓SD, SU, simprocAttr, DM, Ag]
 (repeat' (first | intro _ | refine And.intro ?_ ?_))
 all_goals first | omega | (refine Af.post [] ?_; simp +contextual -dsimp only [↓SD, SU, simprocAttr, DM]; exact ⟨_, rfl, rfl, by omega, by omega⟩) | (refine Bx [] (O6 x.types _ (by omega)  (by omega) (by omega)) (by simp +contextual -dsimp only [↓SD, SU, simprocAttr]) ?_; rintro r hp' ⟨m, rfl, rfl, hm1, hm2⟩; simp +contextual -dsimp only [↓SD, SU, simprocAttr]; (repeat' (first | intro _ | refine And.intro ?_ ?_))) | (refine Bx [] (O7 x.nodes _ (by omega)  (by omega) (by omega)) (by simp +contextual -dsimp only [↓SD, SU, simprocAttr]) ?_; rintro r hp' ⟨m, rfl, rfl, hm1, hm2⟩; simp +contextual -dsimp only [↓SD, SU, simprocAttr]; (repeat' (first | intro _ | refine And.intro ?_ ?_)))
 all_goals first | omega | (refine Af.post [] ?_; simp +contextual -dsimp only [↓SD, SU, simprocAttr, DM]; exact ⟨_, rfl, rfl, by omega, by omega⟩) | (refine Bx [] (O6 x.types _ (by omega)  (by omega) (by omega)) (by simp +contextual -dsimp only [↓SD, SU, simprocAttr]) ?_; rintro r hp' ⟨m, rfl, rfl, hm1, hm2⟩; simp +contextual -dsimp only [↓SD, SU, simprocAttr]; (repeat' (first | intro _ | refine And.intro ?_ ?_))) | (refine Bx [] (O7 x.nodes _ (by omega)  (by omega) (by omega)) (by simp +contextual -dsimp only [↓SD, SU, simprocAttr]) ?_; rintro r hp' ⟨m, rfl, rfl, hm1, hm2⟩; simp +contextual -dsimp only [↓SD, SU, simprocAttr]; (repeat' (first | intro _ | refine And.intro ?_ ?_)))
 all_goals first | omega | (refine Af.post [] ?_; simp +contextual -dsimp only [↓SD, SU, simprocAttr, DM]; exact ⟨_, rfl, rfl, by omega, by omega⟩)

theorem Ti (x : Program) (hx : Ac.bulk x ≤ 4294967296) : Ah Tryz.prog 7 [av x] (av x) := by
 have hb : Ac.bulk x.types + Ac.bulk x.nodes + 1 ≤ 4294967296 := hx
 refine Ic.F rfl (by simp; exact AVal.clean x) (AVal.clean x) ?_
 simp +contextual -dsimp only [↓SD, SU, simprocAttr, Ic, Ag]
 (repeat' (first | intro _ | refine And.intro ?_ ?_))
 refine Aa _ (XD x.types (by omega)) ?_
 simp +contextual -dsimp only [↓SD, SU, simprocAttr]
 (repeat' (first | intro _ | refine And.intro ?_ ?_))
 refine Aa _ (XF x.nodes (by omega)) ?_
 simp +contextual -dsimp only [↓SD, SU, simprocAttr]

theorem TU (x : Program) (hx : Ac.bulk x ≤ 4294967296) : Ah Tryz.prog 9 [av x, av x] (.bool true) := by
 have hb : Ac.bulk x.types + Ac.bulk x.nodes + 1 ≤ 4294967296 := hx
 refine Ig.F rfl (by simp; exact AVal.clean x) (Ad.bool _) ?_
 simp +contextual -dsimp only [↓SD, SU, simprocAttr, Ig, Ag, beq_self_eq_true]
 refine Aa _ (Yw x.types (by omega)) ?_
 simp +contextual -dsimp only [↓SD, SU, simprocAttr, beq_self_eq_true]
 refine Aa _ (Yy x.nodes (by omega)) ?_
 simp +contextual -dsimp only [↓SD, SU, simprocAttr, beq_self_eq_true]

end Go.Proofs.YtppjinmlfcokaaaGreat
