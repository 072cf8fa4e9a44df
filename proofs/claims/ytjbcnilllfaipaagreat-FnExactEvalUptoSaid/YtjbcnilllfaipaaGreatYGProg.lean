/-
 Con, Type, Node, Program BY ABSTRACT TEXTS: as abstract values, copies, comparisons, Lx. Conditions: none. Printed by genav.py.
-/
import Derived.Test.YtjbcnilllfaipaaGreatYJ11
import Derived.Test.YtjbcnilllfaipaaGreatYJ12
set_option linter.unusedVariables false
set_option linter.unusedSimpArgs false
set_option maxRecDepth 100000
namespace Go.Proofs.YtjbcnilllfaipaaGreat
open Go.RowKit Go.Proofs.YtjbcnilllfaipaaGreat.Av Go.Proofs.YtjbcnilllfaipaaGreat.Ml
open Go.Proofs.YtjbcnilllfaipaaGreat.Av.AVal (av)

instance : AVal Con := ⟨fun x => .agg [.str x.name, .bool x.has, .sl (x.arg.items.map av)], 3, fun _ => rfl, fun _ => rfl, fun x y hy => by
 simp only [AV.cells, List.mem_cons, List.not_mem_nil, or_false] at hy
 rcases hy with rfl | rfl | rfl <;> first | exact Ac.int _ _ | exact Ac.str _ | exact Ac.bool _ | exact Aq x.arg.items, fun _ _ => rfl, fun x y hy => by
 simp only [AV.cells, List.mem_cons, List.not_mem_nil, or_false] at hy
 rcases hy with rfl | rfl | rfl <;> rfl⟩
theorem De (x : Con) : av x = .agg [.str x.name, .bool x.has, .sl (x.arg.items.map av)] := eqq rfl
instance : FF Con := ⟨fun {S w cs y} h => by
 obtain ⟨v2, rfl, h0, r2⟩ := h
 exact VRs.cons (.str _ h0) (VRs.cons (.bool _) (VRs.cons (Ej r2) (VRs.nil)))⟩

instance : AVal BP := ⟨fun x => .agg [.str x.name, .int .i64 x.params, .sl (x.cons.map av)], 3, fun _ => rfl, fun _ => rfl, fun x y hy => by
 simp only [AV.cells, List.mem_cons, List.not_mem_nil, or_false] at hy
 rcases hy with rfl | rfl | rfl <;> first | exact Ac.int _ _ | exact Ac.str _ | exact Ac.bool _ | exact Aq x.cons, fun _ _ => rfl, fun x y hy => by
 simp only [AV.cells, List.mem_cons, List.not_mem_nil, or_false] at hy
 rcases hy with rfl | rfl | rfl <;> rfl⟩
theorem BZ (x : BP) : av x = .agg [.str x.name, .int .i64 x.params, .sl (x.cons.map av)] := eqq rfl
instance : FF BP := ⟨fun {S w cs y} h => by
 obtain ⟨v2, rfl, h0, h1, r2⟩ := h
 exact VRs.cons (.str _ h0) (VRs.cons (.int _ _ h1.1 h1.2) (VRs.cons (Ej r2) (VRs.nil)))⟩

instance : AVal Node := ⟨fun x => .agg [.int .i64 x.kind, .int .i64 x.pos, .int .i64 x.n, .str x.s, .sl (x.kids.map av), .sl (x.As.map av)], 6, fun _ => rfl, fun _ => rfl, fun x y hy => by
 simp only [AV.cells, List.mem_cons, List.not_mem_nil, or_false] at hy
 rcases hy with rfl | rfl | rfl | rfl | rfl | rfl <;> first | exact Ac.int _ _ | exact Ac.str _ | exact Ac.bool _ | exact Aq x.kids | exact Aq x.As, fun _ _ => rfl, fun x y hy => by
 simp only [AV.cells, List.mem_cons, List.not_mem_nil, or_false] at hy
 rcases hy with rfl | rfl | rfl | rfl | rfl | rfl <;> rfl⟩
theorem AL (x : Node) : av x = .agg [.int .i64 x.kind, .int .i64 x.pos, .int .i64 x.n, .str x.s, .sl (x.kids.map av), .sl (x.As.map av)] := eqq rfl
instance : FF Node := ⟨fun {S w cs y} h => by
 obtain ⟨v4, v5, rfl, h0, h1, h2, h3, r4, r5⟩ := h
 exact VRs.cons (.int _ _ h0.1 h0.2) (VRs.cons (.int _ _ h1.1 h1.2) (VRs.cons (.int _ _ h2.1 h2.2) (VRs.cons (.str _ h3) (VRs.cons (Ej r4) (VRs.cons (Ej r5) (VRs.nil))))))⟩

instance : AVal Program := ⟨fun x => .agg [.sl (x.types.map av), .sl (x.nodes.map av)], 2, fun _ => rfl, fun _ => rfl, fun x y hy => by
 simp only [AV.cells, List.mem_cons, List.not_mem_nil, or_false] at hy
 rcases hy with rfl | rfl <;> first | exact Ac.int _ _ | exact Ac.str _ | exact Ac.bool _ | exact Aq x.types | exact Aq x.nodes, fun _ _ => rfl, fun x y hy => by
 simp only [AV.cells, List.mem_cons, List.not_mem_nil, or_false] at hy
 rcases hy with rfl | rfl <;> rfl⟩
theorem Aj (x : Program) : av x = .agg [.sl (x.types.map av), .sl (x.nodes.map av)] := eqq rfl
instance : FF Program := ⟨fun {S w cs y} h => by
 obtain ⟨v0, v1, rfl, r0, r1⟩ := h
 exact VRs.cons (Ej r0) (VRs.cons (Ej r1) (VRs.nil))⟩

theorem Aak (x : Con) (n : Int) (hx : Ad.bulk x ≤ 1099511627776) (h1 : -1 ≤ n) (h2 : n ≤ 1099511627776) : Lk 111 [av x, .int .i64 n] := by
 have hb : Ad.bulk x.name + Ad.bulk x.has + Ad.bulk x.arg + 1 ≤ 1099511627776 := hx
 have e0 : Ad.bulk x.name = x.name.size + 1 := rfl
 refine Gb.H rfl ?_
 simp +contextual -dsimp only [↓SD, SU, simprocAttr, Gb, De]
 (repeat' (first | intro _ | refine And.intro ?_ ?_))
 all_goals first | omega | (refine Af.post [] ?_; simp +contextual -dsimp only [↓SD, SU, simprocAttr, Gb]; exact ⟨_, rfl, rfl, by omega, by omega⟩) | (refine Ae [] (Ab9 x.arg _ (by omega)  (by omega) (by omega)) (by simp +contextual -dsimp only [↓SD, SU, simprocAttr]) ?_; rintro r hp' ⟨m, rfl, rfl, hm1, hm2⟩; simp +contextual -dsimp only [↓SD, SU, simprocAttr]; (repeat' (first | intro _ | refine And.intro ?_ ?_)))
 all_goals first | omega | (refine Af.post [] ?_; simp +contextual -dsimp only [↓SD, SU, simprocAttr, Gb]; exact ⟨_, rfl, rfl, by omega, by omega⟩)

theorem Aah (x : Con) (hx : Ad.bulk x ≤ 1099511627776) : Ap Tryz.prog 120 [av x] (av x) := by
 have hb : Ad.bulk x.name + Ad.bulk x.has + Ad.bulk x.arg + 1 ≤ 1099511627776 := hx
 refine KM.F rfl (by simp; exact AVal.clean x) (AVal.clean x) ?_
 simp +contextual -dsimp only [↓SD, SU, simprocAttr, KM, De]
 (repeat' (first | intro _ | refine And.intro ?_ ?_))
 have C := Ab8 x.arg (by omega)
 rw [Mw] at C
 refine Ab _ C ?_
 clear C
 simp +contextual -dsimp only [↓SD, SU, simprocAttr]

theorem Abv (x : Con) (hx : Ad.bulk x ≤ 1099511627776) : Ap Tryz.prog 136 [av x, av x] (.bool true) := by
 have hb : Ad.bulk x.name + Ad.bulk x.has + Ad.bulk x.arg + 1 ≤ 1099511627776 := hx
 refine KO.F rfl (by simp; exact AVal.clean x) (Ac.bool _) ?_
 simp +contextual -dsimp only [↓SD, SU, simprocAttr, KO, De, beq_self_eq_true]
 have C := AcO x.arg (by omega)
 rw [Mw] at C
 refine Ab _ C ?_
 clear C
 simp +contextual -dsimp only [↓SD, SU, simprocAttr, beq_self_eq_true]

theorem Zl (l : List Con) (n : Int) (hx : Ad.bulk l ≤ 1099511627776) (h1 : -1 ≤ n) (h2 : n ≤ 1099511627776) : Lk 64 [.sl (l.map av), .int .i64 n] := by
 have hl := Ao l
 refine EA.H rfl ?_
 simp +contextual -dsimp only [↓SD, SU, simprocAttr, EA, Aa]
 refine ⟨by omega, fun h => ?_, fun h => ?_⟩
 ·refine Af.post [] ?_; simp +contextual -dsimp only [↓SD, SU, simprocAttr, EA]; exact ⟨_, rfl, rfl, by omega, by omega⟩
 refine Al (X := Nat × Int) (fun x => ⟨[(0, .sl (l.map av)), (1, .int .i64 x.2), (5, .int .i64 x.1)], []⟩) (fun x => x.1 ≤ l.length ∧ 0 ≤ x.2 ∧ x.2 ≤ 1099511627776) (fun x => l.length - x.1) (0, n - l.length) ⟨Nat.zero_le _, by simp only; omega, by simp only; omega⟩ (by simp +contextual -dsimp only [↓SD, SU, simprocAttr]) trivial ?_
 rintro ⟨k, m⟩ ⟨hk, hm0, hm1⟩
 simp only at hk hm0 hm1
 by_cases hlt : k < l.length
 ·have e := getD_map av l k .top hlt
  have hbk : Ad.bulk l[k] ≤ 1099511627776 := by have := AW (List.getElem_mem hlt); omega
  simp +contextual -dsimp only [↓SD, SU, simprocAttr, Aa, hlt, e, De]
  refine Ae [] (Aak l[k] m hbk (by omega) hm1) (by simp +contextual -dsimp only [↓SD, SU, simprocAttr]) ?_
  rintro r hp' ⟨q, rfl, rfl, hq1, hq2⟩
  simp +contextual -dsimp only [↓SD, SU, simprocAttr]
  (repeat' (first | intro _ | refine And.intro ?_ ?_))
  all_goals first | omega | (refine Af.post [] ?_; simp +contextual -dsimp only [↓SD, SU, simprocAttr, EA]; exact ⟨_, rfl, rfl, by omega, by omega⟩) | exact Af.le ⟨(k + 1, q), ⟨⟨hlt, by simp only; omega, hq2⟩, (by first | omega | (simp only; omega))⟩, rfl⟩ (by simp +contextual -dsimp only [↓SD, SU, simprocAttr, Int.natCast_add]) trivial
 ·obtain rfl : k = l.length := by omega
  simp +contextual -dsimp only [↓SD, SU, simprocAttr, Aa, Nat.lt_irrefl]
  refine Af.post [] ?_
  simp +contextual -dsimp only [↓SD, SU, simprocAttr, EA]
  exact ⟨_, rfl, rfl, by omega, by omega⟩

theorem Zh (l : List Con) (hx : Ad.bulk l ≤ 1099511627776) : Ap Tryz.prog 83 [.sl (l.map av)] (.sl (l.map av)) := by
 have hl := Ao l
 refine J7.F rfl (by simp; exact Aq l) (Aq l) ?_
 simp +contextual -dsimp only [↓SD, SU, simprocAttr, J7, Aa]
 refine ⟨by omega, fun v => ?_⟩
 refine Al (X := Nat) (fun k => ⟨[(0, .sl (l.map av)), (3, .row 7 v l.length), (4, .int .i64 k)], [(7, ⟨v, false, 92, 3, FD l (AV.agg [.str (bs []), .bool false, .Ar]) k⟩)]⟩) (fun k => k ≤ l.length) (fun k => l.length - k) 0 (Nat.zero_le _) (by simp +contextual -dsimp only [↓SD, SU, simprocAttr]) (by simp +contextual -dsimp only [↓SD, SU, simprocAttr, Eg]) ?_
 intro k hk
 by_cases hlt : k < l.length
 ·have e := getD_map av l k .top hlt
  have e1 := Cv (AV.agg [.str (bs []), .bool false, .Ar]) hk
  have e2 := EO (AV.agg [.str (bs []), .bool false, .Ar]) hlt .top
  have e3 := EN (z := (AV.agg [.str (bs []), .bool false, .Ar])) hlt rfl
  have hbk : Ad.bulk l[k] ≤ 1099511627776 := by have := AW (List.getElem_mem hlt); omega
  rw [De] at e3
  simp +contextual -dsimp only [↓SD, SU, simprocAttr, Aa, hlt, e, De]
  have C := Aah l[k] hbk
  rw [De] at C
  refine Ab _ C ?_
  simp +contextual -dsimp only [↓SD, SU, simprocAttr, Aa, hlt, e, De, e1, e2, e3]
  refine ⟨by omega, Af.le ⟨k + 1, ⟨hlt, (by first | omega | (simp only; omega))⟩, rfl⟩ (by simp +contextual -dsimp only [↓SD, SU, simprocAttr, Int.natCast_add]) (by simp +contextual -dsimp only [↓SD, SU, simprocAttr, e2, e3])⟩
 ·obtain rfl : k = l.length := by omega
  have e1 := Cv (AV.agg [.str (bs []), .bool false, .Ar]) hk
  simp +contextual -dsimp only [↓SD, SU, simprocAttr, Aa, Nat.lt_irrefl, Eh, AA, List.take_length]
  try simp [List.take_of_length_le]

theorem ZP (l : List Con) (hx : Ad.bulk l ≤ 1099511627776) : Ap Tryz.prog 107 [.sl (l.map av), .sl (l.map av)] (.bool true) := by
 have hl := Ao l
 refine Kc.F rfl (by simp; exact Aq l) (Ac.bool _) ?_
 simp +contextual -dsimp only [↓SD, SU, simprocAttr, Kc, Aa]
 refine Al (X := Nat) (fun k => ⟨[(0, .sl (l.map av)), (1, .sl (l.map av)), (5, .int .i64 k)], []⟩) (fun k => k ≤ l.length) (fun k => l.length - k) 0 (Nat.zero_le _) (by simp +contextual -dsimp only [↓SD, SU, simprocAttr]) trivial ?_
 intro k hk
 by_cases hlt : k < l.length
 ·have e := getD_map av l k .top hlt
  have hbk : Ad.bulk l[k] ≤ 1099511627776 := by have := AW (List.getElem_mem hlt); omega
  simp +contextual -dsimp only [↓SD, SU, simprocAttr, Aa, hlt, e, De]
  have C := Abv l[k] hbk
  rw [De] at C
  refine Ab _ C ?_
  simp +contextual -dsimp only [↓SD, SU, simprocAttr, Aa, hlt, e, De]
  exact ⟨by omega, Af.le ⟨k + 1, ⟨hlt, (by first | omega | (simp only; omega))⟩, rfl⟩ (by simp +contextual -dsimp only [↓SD, SU, simprocAttr, Int.natCast_add]) trivial⟩
 ·obtain rfl : k = l.length := by omega
  simp +contextual -dsimp only [↓SD, SU, simprocAttr, Aa, Nat.lt_irrefl]

theorem Zj (x : BP) (n : Int) (hx : Ad.bulk x ≤ 1099511627776) (h1 : -1 ≤ n) (h2 : n ≤ 1099511627776) : Lk 34 [av x, .int .i64 n] := by
 have hb : Ad.bulk x.name + Ad.bulk x.params + Ad.bulk x.cons + 1 ≤ 1099511627776 := hx
 have e0 : Ad.bulk x.name = x.name.size + 1 := rfl
 refine FN.H rfl ?_
 simp +contextual -dsimp only [↓SD, SU, simprocAttr, FN, BZ]
 (repeat' (first | intro _ | refine And.intro ?_ ?_))
 all_goals first | omega | (refine Af.post [] ?_; simp +contextual -dsimp only [↓SD, SU, simprocAttr, FN]; exact ⟨_, rfl, rfl, by omega, by omega⟩) | (refine Ae [] (Zl x.cons _ (by omega)  (by omega) (by omega)) (by simp +contextual -dsimp only [↓SD, SU, simprocAttr]) ?_; rintro r hp' ⟨m, rfl, rfl, hm1, hm2⟩; simp +contextual -dsimp only [↓SD, SU, simprocAttr]; (repeat' (first | intro _ | refine And.intro ?_ ?_)))
 all_goals first | omega | (refine Af.post [] ?_; simp +contextual -dsimp only [↓SD, SU, simprocAttr, FN]; exact ⟨_, rfl, rfl, by omega, by omega⟩)

theorem Zc (x : BP) (hx : Ad.bulk x ≤ 1099511627776) : Ap Tryz.prog 47 [av x] (av x) := by
 have hb : Ad.bulk x.name + Ad.bulk x.params + Ad.bulk x.cons + 1 ≤ 1099511627776 := hx
 refine J2.F rfl (by simp; exact AVal.clean x) (AVal.clean x) ?_
 simp +contextual -dsimp only [↓SD, SU, simprocAttr, J2, BZ]
 (repeat' (first | intro _ | refine And.intro ?_ ?_))
 refine Ab _ (Zh x.cons (by omega)) ?_
 simp +contextual -dsimp only [↓SD, SU, simprocAttr]

theorem ZM (x : BP) (hx : Ad.bulk x ≤ 1099511627776) : Ap Tryz.prog 59 [av x, av x] (.bool true) := by
 have hb : Ad.bulk x.name + Ad.bulk x.params + Ad.bulk x.cons + 1 ≤ 1099511627776 := hx
 refine J8.F rfl (by simp; exact AVal.clean x) (Ac.bool _) ?_
 simp +contextual -dsimp only [↓SD, SU, simprocAttr, J8, BZ, beq_self_eq_true]
 refine Ab _ (ZP x.cons (by omega)) ?_
 simp +contextual -dsimp only [↓SD, SU, simprocAttr, beq_self_eq_true]

theorem Zk (x : Node) (n : Int) (hx : Ad.bulk x ≤ 1099511627776) (h1 : -1 ≤ n) (h2 : n ≤ 1099511627776) : Lk 35 [av x, .int .i64 n] := by
 have hb : Ad.bulk x.kind + Ad.bulk x.pos + Ad.bulk x.n + Ad.bulk x.s + Ad.bulk x.kids + Ad.bulk x.As + 1 ≤ 1099511627776 := hx
 have e3 : Ad.bulk x.s = x.s.size + 1 := rfl
 refine Ez.H rfl ?_
 simp +contextual -dsimp only [↓SD, SU, simprocAttr, Ez, AL]
 (repeat' (first | intro _ | refine And.intro ?_ ?_))
 all_goals first | omega | (refine Af.post [] ?_; simp +contextual -dsimp only [↓SD, SU, simprocAttr, Ez]; exact ⟨_, rfl, rfl, by omega, by omega⟩) | (refine Ae [] (MG x.kids _ (by omega)  (by omega) (by omega)) (by simp +contextual -dsimp only [↓SD, SU, simprocAttr]) ?_; rintro r hp' ⟨m, rfl, rfl, hm1, hm2⟩; simp +contextual -dsimp only [↓SD, SU, simprocAttr]; (repeat' (first | intro _ | refine And.intro ?_ ?_))) | (refine Ae [] (Qi x.As _ (by omega)  (by omega) (by omega)) (by simp +contextual -dsimp only [↓SD, SU, simprocAttr]) ?_; rintro r hp' ⟨m, rfl, rfl, hm1, hm2⟩; simp +contextual -dsimp only [↓SD, SU, simprocAttr]; (repeat' (first | intro _ | refine And.intro ?_ ?_)))
 all_goals first | omega | (refine Af.post [] ?_; simp +contextual -dsimp only [↓SD, SU, simprocAttr, Ez]; exact ⟨_, rfl, rfl, by omega, by omega⟩) | (refine Ae [] (MG x.kids _ (by omega)  (by omega) (by omega)) (by simp +contextual -dsimp only [↓SD, SU, simprocAttr]) ?_; rintro r hp' ⟨m, rfl, rfl, hm1, hm2⟩; simp +contextual -dsimp only [↓SD, SU, simprocAttr]; (repeat' (first | intro _ | refine And.intro ?_ ?_))) | (refine Ae [] (Qi x.As _ (by omega)  (by omega) (by omega)) (by simp +contextual -dsimp only [↓SD, SU, simprocAttr]) ?_; rintro r hp' ⟨m, rfl, rfl, hm1, hm2⟩; simp +contextual -dsimp only [↓SD, SU, simprocAttr]; (repeat' (first | intro _ | refine And.intro ?_ ?_)))
 all_goals first | omega | (refine Af.post [] ?_; simp +contextual -dsimp only [↓SD, SU, simprocAttr, Ez]; exact ⟨_, rfl, rfl, by omega, by omega⟩)

theorem Zf (x : Node) (hx : Ad.bulk x ≤ 1099511627776) : Ap Tryz.prog 48 [av x] (av x) := by
 have hb : Ad.bulk x.kind + Ad.bulk x.pos + Ad.bulk x.n + Ad.bulk x.s + Ad.bulk x.kids + Ad.bulk x.As + 1 ≤ 1099511627776 := hx
 refine J5.F rfl (by simp; exact AVal.clean x) (AVal.clean x) ?_
 simp +contextual -dsimp only [↓SD, SU, simprocAttr, J5, AL]
 (repeat' (first | intro _ | refine And.intro ?_ ?_))
 refine Ab _ (MF x.kids (by omega)) ?_
 simp +contextual -dsimp only [↓SD, SU, simprocAttr]
 (repeat' (first | intro _ | refine And.intro ?_ ?_))
 refine Ab _ (Ze x.As (by omega)) ?_
 simp +contextual -dsimp only [↓SD, SU, simprocAttr]

theorem ZO (x : Node) (hx : Ad.bulk x ≤ 1099511627776) : Ap Tryz.prog 60 [av x, av x] (.bool true) := by
 have hb : Ad.bulk x.kind + Ad.bulk x.pos + Ad.bulk x.n + Ad.bulk x.s + Ad.bulk x.kids + Ad.bulk x.As + 1 ≤ 1099511627776 := hx
 refine Ka.F rfl (by simp; exact AVal.clean x) (Ac.bool _) ?_
 simp +contextual -dsimp only [↓SD, SU, simprocAttr, Ka, AL, beq_self_eq_true]
 refine Ab _ (MU x.kids (by omega)) ?_
 simp +contextual -dsimp only [↓SD, SU, simprocAttr, beq_self_eq_true]
 refine Ab _ (ZN x.As (by omega)) ?_
 simp +contextual -dsimp only [↓SD, SU, simprocAttr, beq_self_eq_true]

theorem N4 (l : List BP) (n : Int) (hx : Ad.bulk l ≤ 1099511627776) (h1 : -1 ≤ n) (h2 : n ≤ 1099511627776) : Lk 16 [.sl (l.map av), .int .i64 n] := by
 have hl := Ao l
 refine Ek.H rfl ?_
 simp +contextual -dsimp only [↓SD, SU, simprocAttr, Ek, Aa]
 refine ⟨by omega, fun h => ?_, fun h => ?_⟩
 ·refine Af.post [] ?_; simp +contextual -dsimp only [↓SD, SU, simprocAttr, Ek]; exact ⟨_, rfl, rfl, by omega, by omega⟩
 refine Al (X := Nat × Int) (fun x => ⟨[(0, .sl (l.map av)), (1, .int .i64 x.2), (5, .int .i64 x.1)], []⟩) (fun x => x.1 ≤ l.length ∧ 0 ≤ x.2 ∧ x.2 ≤ 1099511627776) (fun x => l.length - x.1) (0, n - l.length) ⟨Nat.zero_le _, by simp only; omega, by simp only; omega⟩ (by simp +contextual -dsimp only [↓SD, SU, simprocAttr]) trivial ?_
 rintro ⟨k, m⟩ ⟨hk, hm0, hm1⟩
 simp only at hk hm0 hm1
 by_cases hlt : k < l.length
 ·have e := getD_map av l k .top hlt
  have hbk : Ad.bulk l[k] ≤ 1099511627776 := by have := AW (List.getElem_mem hlt); omega
  simp +contextual -dsimp only [↓SD, SU, simprocAttr, Aa, hlt, e, BZ]
  refine Ae [] (Zj l[k] m hbk (by omega) hm1) (by simp +contextual -dsimp only [↓SD, SU, simprocAttr]) ?_
  rintro r hp' ⟨q, rfl, rfl, hq1, hq2⟩
  simp +contextual -dsimp only [↓SD, SU, simprocAttr]
  (repeat' (first | intro _ | refine And.intro ?_ ?_))
  all_goals first | omega | (refine Af.post [] ?_; simp +contextual -dsimp only [↓SD, SU, simprocAttr, Ek]; exact ⟨_, rfl, rfl, by omega, by omega⟩) | exact Af.le ⟨(k + 1, q), ⟨⟨hlt, by simp only; omega, hq2⟩, (by first | omega | (simp only; omega))⟩, rfl⟩ (by simp +contextual -dsimp only [↓SD, SU, simprocAttr, Int.natCast_add]) trivial
 ·obtain rfl : k = l.length := by omega
  simp +contextual -dsimp only [↓SD, SU, simprocAttr, Aa, Nat.lt_irrefl]
  refine Af.post [] ?_
  simp +contextual -dsimp only [↓SD, SU, simprocAttr, Ek]
  exact ⟨_, rfl, rfl, by omega, by omega⟩

theorem V1 (l : List BP) (hx : Ad.bulk l ≤ 1099511627776) : Ap Tryz.prog 21 [.sl (l.map av)] (.sl (l.map av)) := by
 have hl := Ao l
 refine Jp.F rfl (by simp; exact Aq l) (Aq l) ?_
 simp +contextual -dsimp only [↓SD, SU, simprocAttr, Jp, Aa]
 refine ⟨by omega, fun v => ?_⟩
 refine Al (X := Nat) (fun k => ⟨[(0, .sl (l.map av)), (3, .row 7 v l.length), (4, .int .i64 k)], [(7, ⟨v, false, 86, 3, FD l (AV.agg [.str (bs []), .int .i64 0, .Ar]) k⟩)]⟩) (fun k => k ≤ l.length) (fun k => l.length - k) 0 (Nat.zero_le _) (by simp +contextual -dsimp only [↓SD, SU, simprocAttr]) (by simp +contextual -dsimp only [↓SD, SU, simprocAttr, Eg]) ?_
 intro k hk
 by_cases hlt : k < l.length
 ·have e := getD_map av l k .top hlt
  have e1 := Cv (AV.agg [.str (bs []), .int .i64 0, .Ar]) hk
  have e2 := EO (AV.agg [.str (bs []), .int .i64 0, .Ar]) hlt .top
  have e3 := EN (z := (AV.agg [.str (bs []), .int .i64 0, .Ar])) hlt rfl
  have hbk : Ad.bulk l[k] ≤ 1099511627776 := by have := AW (List.getElem_mem hlt); omega
  rw [BZ] at e3
  simp +contextual -dsimp only [↓SD, SU, simprocAttr, Aa, hlt, e, BZ]
  have C := Zc l[k] hbk
  rw [BZ] at C
  refine Ab _ C ?_
  simp +contextual -dsimp only [↓SD, SU, simprocAttr, Aa, hlt, e, BZ, e1, e2, e3]
  refine ⟨by omega, Af.le ⟨k + 1, ⟨hlt, (by first | omega | (simp only; omega))⟩, rfl⟩ (by simp +contextual -dsimp only [↓SD, SU, simprocAttr, Int.natCast_add]) (by simp +contextual -dsimp only [↓SD, SU, simprocAttr, e2, e3])⟩
 ·obtain rfl : k = l.length := by omega
  have e1 := Cv (AV.agg [.str (bs []), .int .i64 0, .Ar]) hk
  simp +contextual -dsimp only [↓SD, SU, simprocAttr, Aa, Nat.lt_irrefl, Eh, AA, List.take_length]
  try simp [List.take_of_length_le]

theorem WK (l : List BP) (hx : Ad.bulk l ≤ 1099511627776) : Ap Tryz.prog 28 [.sl (l.map av), .sl (l.map av)] (.bool true) := by
 have hl := Ao l
 refine Ju.F rfl (by simp; exact Aq l) (Ac.bool _) ?_
 simp +contextual -dsimp only [↓SD, SU, simprocAttr, Ju, Aa]
 refine Al (X := Nat) (fun k => ⟨[(0, .sl (l.map av)), (1, .sl (l.map av)), (5, .int .i64 k)], []⟩) (fun k => k ≤ l.length) (fun k => l.length - k) 0 (Nat.zero_le _) (by simp +contextual -dsimp only [↓SD, SU, simprocAttr]) trivial ?_
 intro k hk
 by_cases hlt : k < l.length
 ·have e := getD_map av l k .top hlt
  have hbk : Ad.bulk l[k] ≤ 1099511627776 := by have := AW (List.getElem_mem hlt); omega
  simp +contextual -dsimp only [↓SD, SU, simprocAttr, Aa, hlt, e, BZ]
  have C := ZM l[k] hbk
  rw [BZ] at C
  refine Ab _ C ?_
  simp +contextual -dsimp only [↓SD, SU, simprocAttr, Aa, hlt, e, BZ]
  exact ⟨by omega, Af.le ⟨k + 1, ⟨hlt, (by first | omega | (simp only; omega))⟩, rfl⟩ (by simp +contextual -dsimp only [↓SD, SU, simprocAttr, Int.natCast_add]) trivial⟩
 ·obtain rfl : k = l.length := by omega
  simp +contextual -dsimp only [↓SD, SU, simprocAttr, Aa, Nat.lt_irrefl]

theorem N5 (l : List Node) (n : Int) (hx : Ad.bulk l ≤ 1099511627776) (h1 : -1 ≤ n) (h2 : n ≤ 1099511627776) : Lk 17 [.sl (l.map av), .int .i64 n] := by
 have hl := Ao l
 refine El.H rfl ?_
 simp +contextual -dsimp only [↓SD, SU, simprocAttr, El, Aa]
 refine ⟨by omega, fun h => ?_, fun h => ?_⟩
 ·refine Af.post [] ?_; simp +contextual -dsimp only [↓SD, SU, simprocAttr, El]; exact ⟨_, rfl, rfl, by omega, by omega⟩
 refine Al (X := Nat × Int) (fun x => ⟨[(0, .sl (l.map av)), (1, .int .i64 x.2), (5, .int .i64 x.1)], []⟩) (fun x => x.1 ≤ l.length ∧ 0 ≤ x.2 ∧ x.2 ≤ 1099511627776) (fun x => l.length - x.1) (0, n - l.length) ⟨Nat.zero_le _, by simp only; omega, by simp only; omega⟩ (by simp +contextual -dsimp only [↓SD, SU, simprocAttr]) trivial ?_
 rintro ⟨k, m⟩ ⟨hk, hm0, hm1⟩
 simp only at hk hm0 hm1
 by_cases hlt : k < l.length
 ·have e := getD_map av l k .top hlt
  have hbk : Ad.bulk l[k] ≤ 1099511627776 := by have := AW (List.getElem_mem hlt); omega
  simp +contextual -dsimp only [↓SD, SU, simprocAttr, Aa, hlt, e, AL]
  refine Ae [] (Zk l[k] m hbk (by omega) hm1) (by simp +contextual -dsimp only [↓SD, SU, simprocAttr]) ?_
  rintro r hp' ⟨q, rfl, rfl, hq1, hq2⟩
  simp +contextual -dsimp only [↓SD, SU, simprocAttr]
  (repeat' (first | intro _ | refine And.intro ?_ ?_))
  all_goals first | omega | (refine Af.post [] ?_; simp +contextual -dsimp only [↓SD, SU, simprocAttr, El]; exact ⟨_, rfl, rfl, by omega, by omega⟩) | exact Af.le ⟨(k + 1, q), ⟨⟨hlt, by simp only; omega, hq2⟩, (by first | omega | (simp only; omega))⟩, rfl⟩ (by simp +contextual -dsimp only [↓SD, SU, simprocAttr, Int.natCast_add]) trivial
 ·obtain rfl : k = l.length := by omega
  simp +contextual -dsimp only [↓SD, SU, simprocAttr, Aa, Nat.lt_irrefl]
  refine Af.post [] ?_
  simp +contextual -dsimp only [↓SD, SU, simprocAttr, El]
  exact ⟨_, rfl, rfl, by omega, by omega⟩

theorem V5 (l : List Node) (hx : Ad.bulk l ≤ 1099511627776) : Ap Tryz.prog 22 [.sl (l.map av)] (.sl (l.map av)) := by
 have hl := Ao l
 refine Js.F rfl (by simp; exact Aq l) (Aq l) ?_
 simp +contextual -dsimp only [↓SD, SU, simprocAttr, Js, Aa]
 refine ⟨by omega, fun v => ?_⟩
 refine Al (X := Nat) (fun k => ⟨[(0, .sl (l.map av)), (3, .row 7 v l.length), (4, .int .i64 k)], [(7, ⟨v, false, 96, 6, FD l (AV.agg [.int .i64 0, .int .i64 0, .int .i64 0, .str (bs []), .Ar, .Ar]) k⟩)]⟩) (fun k => k ≤ l.length) (fun k => l.length - k) 0 (Nat.zero_le _) (by simp +contextual -dsimp only [↓SD, SU, simprocAttr]) (by simp +contextual -dsimp only [↓SD, SU, simprocAttr, Eg]) ?_
 intro k hk
 by_cases hlt : k < l.length
 ·have e := getD_map av l k .top hlt
  have e1 := Cv (AV.agg [.int .i64 0, .int .i64 0, .int .i64 0, .str (bs []), .Ar, .Ar]) hk
  have e2 := EO (AV.agg [.int .i64 0, .int .i64 0, .int .i64 0, .str (bs []), .Ar, .Ar]) hlt .top
  have e3 := EN (z := (AV.agg [.int .i64 0, .int .i64 0, .int .i64 0, .str (bs []), .Ar, .Ar])) hlt rfl
  have hbk : Ad.bulk l[k] ≤ 1099511627776 := by have := AW (List.getElem_mem hlt); omega
  rw [AL] at e3
  simp +contextual -dsimp only [↓SD, SU, simprocAttr, Aa, hlt, e, AL]
  have C := Zf l[k] hbk
  rw [AL] at C
  refine Ab _ C ?_
  simp +contextual -dsimp only [↓SD, SU, simprocAttr, Aa, hlt, e, AL, e1, e2, e3]
  refine ⟨by omega, Af.le ⟨k + 1, ⟨hlt, (by first | omega | (simp only; omega))⟩, rfl⟩ (by simp +contextual -dsimp only [↓SD, SU, simprocAttr, Int.natCast_add]) (by simp +contextual -dsimp only [↓SD, SU, simprocAttr, e2, e3])⟩
 ·obtain rfl : k = l.length := by omega
  have e1 := Cv (AV.agg [.int .i64 0, .int .i64 0, .int .i64 0, .str (bs []), .Ar, .Ar]) hk
  simp +contextual -dsimp only [↓SD, SU, simprocAttr, Aa, Nat.lt_irrefl, Eh, AA, List.take_length]
  try simp [List.take_of_length_le]

theorem WM (l : List Node) (hx : Ad.bulk l ≤ 1099511627776) : Ap Tryz.prog 29 [.sl (l.map av), .sl (l.map av)] (.bool true) := by
 have hl := Ao l
 refine Jw.F rfl (by simp; exact Aq l) (Ac.bool _) ?_
 simp +contextual -dsimp only [↓SD, SU, simprocAttr, Jw, Aa]
 refine Al (X := Nat) (fun k => ⟨[(0, .sl (l.map av)), (1, .sl (l.map av)), (5, .int .i64 k)], []⟩) (fun k => k ≤ l.length) (fun k => l.length - k) 0 (Nat.zero_le _) (by simp +contextual -dsimp only [↓SD, SU, simprocAttr]) trivial ?_
 intro k hk
 by_cases hlt : k < l.length
 ·have e := getD_map av l k .top hlt
  have hbk : Ad.bulk l[k] ≤ 1099511627776 := by have := AW (List.getElem_mem hlt); omega
  simp +contextual -dsimp only [↓SD, SU, simprocAttr, Aa, hlt, e, AL]
  have C := ZO l[k] hbk
  rw [AL] at C
  refine Ab _ C ?_
  simp +contextual -dsimp only [↓SD, SU, simprocAttr, Aa, hlt, e, AL]
  exact ⟨by omega, Af.le ⟨k + 1, ⟨hlt, (by first | omega | (simp only; omega))⟩, rfl⟩ (by simp +contextual -dsimp only [↓SD, SU, simprocAttr, Int.natCast_add]) trivial⟩
 ·obtain rfl : k = l.length := by omega
  simp +contextual -dsimp only [↓SD, SU, simprocAttr, Aa, Nat.lt_irrefl]

theorem RZ (x : Program) (n : Int) (hx : Ad.bulk x ≤ 1099511627776) (h1 : -1 ≤ n) (h2 : n ≤ 1099511627776) : Lk 4 [av x, .int .i64 n] := by
 have hb : Ad.bulk x.types + Ad.bulk x.nodes + 1 ≤ 1099511627776 := hx
 refine DK.H rfl ?_
 simp +contextual -dsimp only [↓SD, SU, simprocAttr, DK, Aj]
 (repeat' (first | intro _ | refine And.intro ?_ ?_))
 all_goals first | omega | (refine Af.post [] ?_; simp +contextual -dsimp only [↓SD, SU, simprocAttr, DK]; exact ⟨_, rfl, rfl, by omega, by omega⟩) | (refine Ae [] (N4 x.types _ (by omega)  (by omega) (by omega)) (by simp +contextual -dsimp only [↓SD, SU, simprocAttr]) ?_; rintro r hp' ⟨m, rfl, rfl, hm1, hm2⟩; simp +contextual -dsimp only [↓SD, SU, simprocAttr]; (repeat' (first | intro _ | refine And.intro ?_ ?_))) | (refine Ae [] (N5 x.nodes _ (by omega)  (by omega) (by omega)) (by simp +contextual -dsimp only [↓SD, SU, simprocAttr]) ?_; rintro r hp' ⟨m, rfl, rfl, hm1, hm2⟩; simp +contextual -dsimp only [↓SD, SU, simprocAttr]; (repeat' (first | intro _ | refine And.intro ?_ ?_)))
 all_goals first | omega | (refine Af.post [] ?_; simp +contextual -dsimp only [↓SD, SU, simprocAttr, DK]; exact ⟨_, rfl, rfl, by omega, by omega⟩) | (refine Ae [] (N4 x.types _ (by omega)  (by omega) (by omega)) (by simp +contextual -dsimp only [↓SD, SU, simprocAttr]) ?_; rintro r hp' ⟨m, rfl, rfl, hm1, hm2⟩; simp +contextual -dsimp only [↓SD, SU, simprocAttr]; (repeat' (first | intro _ | refine And.intro ?_ ?_))) | (refine Ae [] (N5 x.nodes _ (by omega)  (by omega) (by omega)) (by simp +contextual -dsimp only [↓SD, SU, simprocAttr]) ?_; rintro r hp' ⟨m, rfl, rfl, hm1, hm2⟩; simp +contextual -dsimp only [↓SD, SU, simprocAttr]; (repeat' (first | intro _ | refine And.intro ?_ ?_)))
 all_goals first | omega | (refine Af.post [] ?_; simp +contextual -dsimp only [↓SD, SU, simprocAttr, DK]; exact ⟨_, rfl, rfl, by omega, by omega⟩)

theorem RV (x : Program) (hx : Ad.bulk x ≤ 1099511627776) : Ap Tryz.prog 6 [av x] (av x) := by
 have hb : Ad.bulk x.types + Ad.bulk x.nodes + 1 ≤ 1099511627776 := hx
 refine Hy.F rfl (by simp; exact AVal.clean x) (AVal.clean x) ?_
 simp +contextual -dsimp only [↓SD, SU, simprocAttr, Hy, Aj]
 (repeat' (first | intro _ | refine And.intro ?_ ?_))
 refine Ab _ (V1 x.types (by omega)) ?_
 simp +contextual -dsimp only [↓SD, SU, simprocAttr]
 (repeat' (first | intro _ | refine And.intro ?_ ?_))
 refine Ab _ (V5 x.nodes (by omega)) ?_
 simp +contextual -dsimp only [↓SD, SU, simprocAttr]

theorem SJ (x : Program) (hx : Ad.bulk x ≤ 1099511627776) : Ap Tryz.prog 10 [av x, av x] (.bool true) := by
 have hb : Ad.bulk x.types + Ad.bulk x.nodes + 1 ≤ 1099511627776 := hx
 refine HF.F rfl (by simp; exact AVal.clean x) (Ac.bool _) ?_
 simp +contextual -dsimp only [↓SD, SU, simprocAttr, HF, Aj, beq_self_eq_true]
 refine Ab _ (WK x.types (by omega)) ?_
 simp +contextual -dsimp only [↓SD, SU, simprocAttr, beq_self_eq_true]
 refine Ab _ (WM x.nodes (by omega)) ?_
 simp +contextual -dsimp only [↓SD, SU, simprocAttr, beq_self_eq_true]

end Go.Proofs.YtjbcnilllfaipaaGreat
