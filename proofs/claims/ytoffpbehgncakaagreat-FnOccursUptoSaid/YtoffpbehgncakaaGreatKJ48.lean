/-
 THE REFERENCE'S TREES OF PROGRAMS: l09Sub, by its abstract text. Conditions: none.
-/
import Derived.Test.YtoffpbehgncakaaGreatKJ45
import Derived.Test.YtoffpbehgncakaaGreatKJ47
import Derived.Test.YtoffpbehgncakaaGreatKDrawH
set_option linter.unusedVariables false
set_option linter.unusedSimpArgs false
set_option maxRecDepth 100000
namespace Go.Proofs.YtoffpbehgncakaaGreat
open Go.RowKit Go.Proofs.YtoffpbehgncakaaGreat.Av Go.Proofs.YtoffpbehgncakaaGreat.Ml
open Go.Proofs.YtoffpbehgncakaaGreat.Av.AVal (av)

theorem XZ (p : Program) (hk : ∀ i, i < p.nodes.length → ∀ k ∈ BZ p.nodes i, (i : Int) < k ∧ k < p.nodes.length) (hx : AE.bulk p.nodes ≤ 1099511627776) : ∀ (f i : Nat), i < p.nodes.length → p.nodes.length - i ≤ f → AH Tryz.prog 23 [av p, .int .i64 i] (av (Sub.mk (Cq p.nodes f i))) := by
 intro f
 induction f with
 | zero => intro i hi hf; omega
 | succ f ih =>
  intro i hi hf
  have hl := A2 p.nodes
  have e := getD_map av p.nodes i .top hi
  have em := List.getElem_mem hi
  obtain ⟨b1, b2, b3, b4⟩ := Dy hx em
  have hK : BZ p.nodes i = p.nodes[i].kids := by simp [BZ, hi]
  have hg : Cq p.nodes (f + 1) i = .mk p.nodes[i] (p.nodes[i].kids.map fun k => Cq p.nodes f k.toNat) := by rw [Cq, hK]; simp [hi]
  have hks := hk i hi
  rw [hK] at hks
  have hpl := A2 p.nodes[i].AL
  refine Iv.F rfl (by simp; exact ⟨AVal.clean p, Cr _⟩) (AVal.clean _) ?_
  rw [hg]
  clear hg hK
  generalize p.nodes[i] = n at *
  simp +contextual -dsimp (maxSteps := 2000000) only [↓SD, SU, simprocAttr, Iv, Aa, hi, e, Ba, Aw]
  intro v4 v5 v6
  refine C0 (X := Nat × Nat) (fun x => ⟨[(2, .obj [.sl (p.types.map av), .sl (p.nodes.map av)]), (4, .ptr 4 v4 0 0), (5, .ptr 5 v5 0 0), (6, .ptr 6 v6 0 0), (24, .sl (n.AL.map av)), (25, .int .i64 n.AL.length), (26, .int .i64 x.1)], [(4, ⟨v4, false, 54, 7, [.agg [.int .i64 0, .int .i64 0, .int .i64 0, .str (bs []), .Au, .Au, .Au]]⟩), (5, ⟨v5, false, 51, 6, [.agg [.int .i64 n.kind, .int .i64 n.pos, .int .i64 n.n, .str n.s, .sl (n.kids.map av), .sl (n.AL.map av)]]⟩), (6, ⟨v6, false, 54, 7, [.agg [.int .i64 n.kind, .int .i64 n.pos, .int .i64 n.n, .str n.s, .sl (n.kids.map av), .row 54 x.2 x.1, .Au]]⟩), (54, ⟨x.2, false, 66, 1, (n.AL.take x.1).map av⟩)]⟩) (fun x => x.1 ≤ n.AL.length) (fun x => n.AL.length - x.1) (Ai.Fl 6 0 5 54 66 1 rfl rfl Nat.zero_lt_one rfl (by decide) (fun v => Ai.le ⟨(0, v), Nat.zero_le _, rfl⟩ (by simp +contextual -dsimp only [↓SD, SU, simprocAttr]) (by simp +contextual -dsimp only [↓SD, SU, simprocAttr]))) ?_
  rintro ⟨k, u⟩ hk1
  simp only at hk1
  by_cases hlt : k < n.AL.length
  ·have e2 := getD_map av n.AL k .top hlt
   have hm := CY (List.getElem_mem hlt)
   have ht : n.AL.take (k + 1) = n.AL.take k ++ [n.AL[k]] := List.take_succ_eq_append_getElem hlt
   have hk2 : (n.AL.take k).length = k := by simp; omega
   have ht2 : List.take k ((n.AL.take k).map av) = (n.AL.take k).map av := List.take_of_length_le (by simp; omega)
   generalize n.AL[k] = q at *
   have hql := A2 q.nodes
   have hqb : AE.bulk q = AE.bulk q.nodes + 1 := rfl
   simp +contextual -dsimp (maxSteps := 2000000) only [↓SD, SU, simprocAttr, Aa, hlt, e2, Ed]
   intro v8 v30
   refine AB (X := Nat × Nat) (fun y => ⟨[(2, .obj [.sl (p.types.map av), .sl (p.nodes.map av)]), (4, .ptr 4 v4 0 0), (5, .ptr 5 v5 0 0), (6, .ptr 6 v6 0 0), (9, .row 30 y.2 y.1), (24, .sl (n.AL.map av)), (25, .int .i64 n.AL.length), (26, .int .i64 k), (32, .sl (q.nodes.map av)), (33, .int .i64 q.nodes.length), (34, .int .i64 y.1)], [(4, ⟨v4, false, 54, 7, [.agg [.int .i64 0, .int .i64 0, .int .i64 0, .str (bs []), .Au, .Au, .Au]]⟩), (5, ⟨v5, false, 51, 6, [.agg [.int .i64 n.kind, .int .i64 n.pos, .int .i64 n.n, .str n.s, .sl (n.kids.map av), .sl (n.AL.map av)]]⟩), (6, ⟨v6, false, 54, 7, [.agg [.int .i64 n.kind, .int .i64 n.pos, .int .i64 n.n, .str n.s, .sl (n.kids.map av), .row 54 u k, .Au]]⟩), (54, ⟨u, false, 66, 1, (n.AL.take k).map av⟩), (30, ⟨y.2, false, 83, 4, (q.nodes.take y.1).map av⟩)]⟩) (fun y => y.1 ≤ q.nodes.length) (fun y => q.nodes.length - y.1) (0, v30) (Nat.zero_le _) (by simp +contextual -dsimp only [↓SD, SU, simprocAttr]) (by simp +contextual -dsimp only [↓SD, SU, simprocAttr]) ?_
   rintro ⟨j, u2⟩ hj
   simp only at hj
   by_cases hlj : j < q.nodes.length
   ·have e3 := getD_map av q.nodes j .top hlj
    have hm3 := CY (List.getElem_mem hlj)
    have ht3 : q.nodes.take (j + 1) = q.nodes.take j ++ [q.nodes[j]] := List.take_succ_eq_append_getElem hlj
    have hk3 : (q.nodes.take j).length = j := by simp; omega
    have ht4 : List.take j ((q.nodes.take j).map av) = (q.nodes.take j).map av := List.take_of_length_le (by simp; omega)
    generalize q.nodes[j] = a at *
    have hb1 : AE.bulk a = AE.bulk a.kind + AE.bulk a.n + AE.bulk a.s + AE.bulk a.kids + 1 := rfl
    have hl1 := A2 a.kids
    have hint : ∀ y ∈ a.kids.map (av : Int → AV), y.cells.length = 1 := fun y hy => by obtain ⟨x, _, rfl⟩ := List.mem_map.1 hy; rfl
    have hnp : (a.kids.map (av : Int → AV)).map (AV.pur []) = a.kids.map av := Ab _ _
    simp +contextual -dsimp (maxSteps := 2000000) only [↓SD, SU, simprocAttr, Aa, hlj, e3, Bw, Ab]
    intro v11 v38
    refine ⟨⟨hint, by omega, by unfold maxLen; omega⟩, fun v38' => BQ (Ai.frz 38 (Ai.here ?_))⟩
    simp +contextual -dsimp (maxSteps := 2000000) only [↓SD, SU, simprocAttr, Aa, hlj, e3, Bw, Ab, hk3, ht4, DT, List.take_length]
    refine ⟨⟨by omega, by unfold maxLen; omega⟩, fun u' => ⟨by omega, Ai.le ⟨(j + 1, u'), ⟨hlj, (by first | omega | (simp only; omega))⟩, rfl⟩ (by simp +contextual -dsimp only [↓SD, SU, simprocAttr, Int.natCast_add]) (by simp +contextual -dsimp only [↓SD, SU, simprocAttr, ht3, List.map_append, Bw])⟩⟩
   ·obtain rfl : j = q.nodes.length := by omega
    simp +contextual -dsimp (maxSteps := 2000000) only [↓SD, SU, simprocAttr, Aa, Nat.lt_irrefl, List.take_length]
    refine BQ (Ai.frz 30 (Ai.here ?_))
    simp +contextual -dsimp (maxSteps := 2000000) only [↓SD, SU, simprocAttr, Aa, Ab, hk2, ht2, DT, List.take_length]
    refine ⟨⟨by omega, by unfold maxLen; omega⟩, fun u' => ⟨by omega, Ai.le ⟨(k + 1, u'), ⟨hlt, (by first | omega | (simp only; omega))⟩, rfl⟩ (by simp +contextual -dsimp only [↓SD, SU, simprocAttr, Int.natCast_add]) (by simp +contextual -dsimp only [↓SD, SU, simprocAttr, ht, List.map_append, Ed])⟩⟩
  ·obtain rfl : k = n.AL.length := by omega
   simp +contextual -dsimp (maxSteps := 2000000) only [↓SD, SU, simprocAttr, Aa, Nat.lt_irrefl, List.take_length]
   refine C0 (X := Nat × Nat) (fun x => ⟨[(2, .obj [.sl (p.types.map av), .sl (p.nodes.map av)]), (4, .ptr 4 v4 0 0), (6, .ptr 6 v6 0 0), (59, .sl (n.kids.map av)), (60, .int .i64 n.kids.length), (61, .int .i64 x.1)], [(4, ⟨v4, false, 54, 7, [.agg [.int .i64 0, .int .i64 0, .int .i64 0, .str (bs []), .Au, .Au, .Au]]⟩), (6, ⟨v6, false, 54, 7, [.agg [.int .i64 n.kind, .int .i64 n.pos, .int .i64 n.n, .str n.s, .sl (n.kids.map av), .row 54 u n.AL.length, .row 71 x.2 x.1]]⟩), (54, ⟨u, false, 66, 1, n.AL.map av⟩), (71, ⟨x.2, false, 54, 7, ((n.kids.take x.1).map fun k => Sub.mk (Cq p.nodes f k.toNat)).map av⟩)]⟩) (fun x => x.1 ≤ n.kids.length) (fun x => n.kids.length - x.1) (Ai.Fl 6 0 6 71 54 7 rfl rfl Nat.zero_lt_one rfl (by decide) (fun v => Ai.le ⟨(0, v), Nat.zero_le _, rfl⟩ (by simp +contextual -dsimp only [↓SD, SU, simprocAttr]) (by simp +contextual -dsimp only [↓SD, SU, simprocAttr]))) ?_
   rintro ⟨j, u2⟩ hj
   simp only at hj
   by_cases hlt : j < n.kids.length
   ·have e2 := getD_map av n.kids j .top hlt
    have hkj := hks _ (List.getElem_mem hlt)
    have ht : n.kids.take (j + 1) = n.kids.take j ++ [n.kids[j]] := List.take_succ_eq_append_getElem hlt
    obtain ⟨m, hm⟩ : ∃ m : Nat, n.kids[j] = m := ⟨n.kids[j].toNat, by omega⟩
    rw [hm] at e2 hkj ht
    have C2 := ih m (by omega) (by omega)
    rw [Aw] at C2
    have hk2 : (n.kids.take j).length = j := by simp; omega
    have ht2 : List.take j (((n.kids.take j).map fun k => Sub.mk (Cq p.nodes f k.toNat)).map av) = ((n.kids.take j).map fun k => Sub.mk (Cq p.nodes f k.toNat)).map av := List.take_of_length_le (by simp; omega)
    simp +contextual -dsimp (maxSteps := 2000000) only [↓SD, SU, simprocAttr, Aa, hlt, e2, Af]
    refine Ac _ C2 ?_
    simp +contextual -dsimp (maxSteps := 2000000) only [↓SD, SU, simprocAttr, Aa, hlt, ZL, Ql, Aas, Abq, hk2, ht2, Ab]
    refine ⟨⟨by omega, by unfold maxLen; omega⟩, fun u' => ⟨by omega, Ai.le ⟨(j + 1, u'), ⟨hlt, (by first | omega | (simp only; omega))⟩, rfl⟩ (by simp +contextual -dsimp only [↓SD, SU, simprocAttr, Int.natCast_add]) (by simp +contextual -dsimp only [↓SD, SU, simprocAttr, ht, List.map_append, Int.toNat_natCast])⟩⟩
   ·obtain rfl : j = n.kids.length := by omega
    simp +contextual -dsimp (maxSteps := 2000000) only [↓SD, SU, simprocAttr, Aa, Nat.lt_irrefl, Ab, List.take_length, DT]
    rw [NN, List.take_of_length_le (by simp), List.map_map, List.map_map, List.map_map]; rfl

end Go.Proofs.YtoffpbehgncakaaGreat
set_option linter.unusedVariables false
set_option linter.unusedSimpArgs false
set_option maxRecDepth 100000
namespace Go.Proofs.YtoffpbehgncakaaGreat
open Go.RowKit Go.Proofs.YtoffpbehgncakaaGreat.Av Go.Proofs.YtoffpbehgncakaaGreat.Ml
open Go.Proofs.YtoffpbehgncakaaGreat.Av.AVal (av)

theorem So (p : Program) (i : Int) (hx : AE.bulk p ≤ 1099511627776) : AH Tryz.prog 21 [av p, .int .i64 i] (.bool (Fb p i)) := by
 obtain ⟨q1, q2, q3, q4⟩ := Dw hx
 refine GS.F rfl (by simp; exact ⟨AVal.clean p, Cr _⟩) (Ap.bool _) ?_
 have C := KZ p hx
 rw [Aw] at C
 simp +contextual -dsimp only [↓SD, SU, simprocAttr, GS, Aw, Aa]
 cases hb : Fo p with
 | false =>
  rw [hb] at C
  refine Ac _ C ?_
  simp +contextual -dsimp only [↓SD, SU, simprocAttr]
  simp [Fb, hb]
 | true =>
  rw [hb] at C
  refine Ac _ C ?_
  simp +contextual -dsimp only [↓SD, SU, simprocAttr, Aa]
  (repeat' (first | intro _ | refine And.intro ?_ ?_))
  all_goals first | omega | (simp [Fb, hb, *]; done) | (simp [Fb, hb]; omega)
theorem Of (p : Program) (i : Int) (s : ByteArray) (hx : AE.bulk p ≤ 1099511627776) (hs : s.size ≤ 1099511627776) : AH Tryz.prog 7 [av p, .int .i64 i, .str s] (.int .i64 (Oi p i s)) := by
 obtain ⟨q1, q2, q3, q4⟩ := Dw hx
 refine IG.F rfl (by simp; exact ⟨AVal.clean p, Cr _, Ap.str _⟩) (Cr _) ?_
 have C := So p i hx
 rw [Aw] at C
 simp +contextual -dsimp only [↓SD, SU, simprocAttr, IG, Aw, Aa]
 cases hb : Fb p i with
 | false =>
  rw [hb] at C
  refine Ac _ C ?_
  simp +contextual -dsimp only [↓SD, SU, simprocAttr]
  simp [Oi, hb]
 | true =>
  rw [hb] at C
  have hb' := hb
  simp only [Fb, Bool.and_eq_true, decide_eq_true_eq] at hb'
  obtain ⟨hp, hi0, hi1⟩ := hb'
  obtain ⟨f1, f2, f3, f4, f5⟩ := ME hx hp
  obtain ⟨j, rfl⟩ : ∃ j : Nat, i = j := ⟨i.toNat, by omega⟩
  have hk : ∀ i, i < p.nodes.length → ∀ k ∈ BZ p.nodes i, (i : Int) < k ∧ k < p.nodes.length := fun i hi k hk => I7 f3 hi hk
  have C2 := XZ p hk q2 p.nodes.length j (by omega) (by omega)
  have C3 := Sp s hs (Cq p.nodes p.nodes.length j) (KY hk f4 _ _ (by omega) (by omega)) (by have := Lq f3 (i := j) (by omega); unfold JK at this; omega)
  have ho : Oi p j s = Ib s (Cq p.nodes p.nodes.length j) := by simp [Oi, hb, JK]
  rw [ho]
  rw [Aw] at C2
  generalize Cq p.nodes p.nodes.length j = t at *
  refine Ac _ C ?_
  simp +contextual -dsimp only [↓SD, SU, simprocAttr, Aa]
  refine Ac _ C2 ?_
  simp +contextual -dsimp only [↓SD, SU, simprocAttr, Ma]
  refine Ac _ C3 ?_
  simp +contextual -dsimp only [↓SD, SU, simprocAttr]
end Go.Proofs.YtoffpbehgncakaaGreat
set_option linter.unusedVariables false
set_option linter.unusedSimpArgs false
set_option maxRecDepth 100000
namespace Go.Proofs.YtoffpbehgncakaaGreat
open Go.RowKit Go.Proofs.YtoffpbehgncakaaGreat.Av Go.Proofs.YtoffpbehgncakaaGreat.Ml
open Go.Proofs.YtoffpbehgncakaaGreat.Av.AVal (av)

theorem Oj (c : List UInt8) (hc : AE.bulk c ≤ 1048576) : AH Tryz.prog 3 [.sl (c.map av)] (.bool true) := by -- 
 have hcl := A2 c
 refine G0.F rfl (by simp; exact AQ c) (Ap.bool _) ?_
 have h20 : ¬ (1048576 : Int) < c.length := by omega -- 
 simp +contextual -dsimp (maxSteps := 2000000) only [↓SD, SU, simprocAttr, G0, Aa, h20]
 refine Ad [] (Ox c (by omega)) (by simp +contextual -dsimp only [↓SD, SU, simprocAttr, Ab]) ?_
 rintro r hp' ⟨p, x, s, rfl, hp0, hs, hx, rfl⟩
 have hb := hp0.bulk
 have CI := JB p x s hb (by omega)
 have CS := Of p x s hb (by omega)
 have CF := On p x s hb (by omega)
 rw [Aw] at CI CS CF
 simp +contextual -dsimp (maxSteps := 2000000) only [↓SD, SU, simprocAttr, Aw]
 intro v3
 refine Ac _ CI ?_
 simp +contextual -dsimp (maxSteps := 2000000) only [↓SD, SU, simprocAttr, Ab]
 refine Ac _ CS ?_
 simp +contextual -dsimp (maxSteps := 2000000) only [↓SD, SU, simprocAttr, Ab]
 refine Ac _ CF ?_
 simp +contextual -dsimp (maxSteps := 2000000) only [↓SD, SU, simprocAttr, Ab]
 rw [beq_self_eq_true]
end Go.Proofs.YtoffpbehgncakaaGreat
