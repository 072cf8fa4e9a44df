/-
 Fold OF THE REFERENCE: the whole. Conditions: none.
-/
import Derived.Test.YtppjinmlfcokaaaGreatJFldS
import Derived.Test.YtppjinmlfcokaaaGreatProg
import Derived.Test.YtppjinmlfcokaaaGreatJAvDraw
import Derived.Test.YtppjinmlfcokaaaGreatJJ43
set_option linter.unusedVariables false
set_option linter.unusedSimpArgs false
set_option maxRecDepth 100000
namespace Go.Proofs.YtppjinmlfcokaaaGreat
open Go.RowKit Go.Proofs.YtppjinmlfcokaaaGreat.Av Go.Proofs.YtppjinmlfcokaaaGreat.Ml
open Go.Proofs.YtppjinmlfcokaaaGreat.Av.AVal (av)

set_option maxHeartbeats 4000000 in
theorem N6 (p : Program) (hx : Ac.bulk p ≤ 4294967296) (hB : ∀ n ∈ p.nodes, Ac.bulk n ≤ 2100000) : Ak Tryz.prog 17 [av p] (av (Dh AE p)) := by
 obtain ⟨q1, q2, q3, q4⟩ := Ck hx
 have C := EG p hx
 rw [Ad] at C
 cases hb : Db p with
 | false =>
  rw [hb] at C
  have e : Dh AE p = ⟨[], []⟩ := by rw [Dh, if_neg (by rw [hb]; simp)]
  rw [e]
  refine DK (r := .agg [.Aj, .Aj]) (Hd.F rfl (by simp; exact AVal.clean p) (Ae.agg (by simp; exact Ae.Aj)) ?_) (fun S w v h => TB h)
  simp +contextual -dsimp (maxSteps := 2000000) only [↓SD, SU, simprocAttr, Hd, Ad]
  intro v2
  refine Ab _ C ?_
  simp +contextual -dsimp (maxSteps := 2000000) only [↓SD, SU, simprocAttr]
 | true =>
  rw [hb] at C
  obtain ⟨f1, f2, f3, f4, f5⟩ := CJ hx hb
  have hk : ∀ i, i < p.nodes.length → ∀ k ∈ Bp p.nodes i, (i : Int) < k ∧ k < p.nodes.length := fun i hi k hk => DM f3 hi hk
  have G := Lr p hk q2 p.nodes.length 0 (by omega) (by omega)
  rw [show Bx p.nodes p.nodes.length 0 = A2 p.nodes 0 from rfl, Ad] at G
  have hT := Xv hx hb hB
  have hsz := (D5 hx hb).2.2.2.1
  have CS := X5 _ hT hsz
  have hR := Hw Lg Rn (HP (B := 2100000) (by decide)) _ hT
  have CL := L5 (Bh AE (A2 p.nodes 0)) (by omega)
  have e : Dh AE p = ⟨p.types, BF 0 (Bh AE (A2 p.nodes 0))⟩ := by rw [Dh, if_pos hb]
  rw [e, Ad]
  refine Hd.F rfl (by simp; exact AVal.clean p) (AVal.clean (⟨p.types, BF 0 (Bh AE (A2 p.nodes 0))⟩ : Program)) ?_
  clear e hR hT
  generalize Bh AE (A2 p.nodes 0) = T' at *
  generalize A2 p.nodes 0 = T at *
  generalize BF 0 T' = L at *
  have hlm : ∀ hp, (L.map (av : Node → AV)).map (AV.pur hp) = L.map av := fun hp => AK _ hp
  have hl := Ag p.types
  generalize p.types = l at *
  simp +contextual -dsimp (maxSteps := 2000000) only [↓SD, SU, simprocAttr, Hd, Ad]
  intro v2
  refine Ab _ C ?_
  simp +contextual -dsimp (maxSteps := 2000000) only [↓SD, SU, simprocAttr]
  refine Ab _ G ?_
  simp +contextual -dsimp (maxSteps := 2000000) only [↓SD, SU, simprocAttr, AP]
  refine Ab _ CS ?_
  simp +contextual -dsimp (maxSteps := 2000000) only [↓SD, SU, simprocAttr, AP]
  refine Ab _ CL ?_
  simp +contextual -dsimp (maxSteps := 2000000) only [↓SD, SU, simprocAttr, hlm]
  intro v3
  refine DL (X := TwS) (fun x => ⟨[(2, .ptr 2 v2 0 0), (3, .ptr 3 v3 0 0), (19, .sl (l.map av)), (20, .int .i64 l.length), (21, .int .i64 x.k)], [(3, ⟨v3, false, 31, 2, [.agg [.row 51 x.u x.k, .sl (L.map av)]]⟩), (51, ⟨x.u, false, 72, 3, (l.take x.k).map av⟩), (2, ⟨v2, false, 31, 2, [.agg [.Aj, .Aj]]⟩)]⟩) (fun x => x.k ≤ l.length) (fun x => l.length - x.k) ?_ ?_
  ·refine Af.FA 3 0 0 51 72 3 rfl rfl Nat.zero_lt_one rfl (by decide) fun z => ?_
   exact Af.le ⟨⟨0, z⟩, Nat.zero_le _, rfl⟩ (by simp +contextual -dsimp only [↓SD, SU, simprocAttr, Aa]) (by simp +contextual -dsimp only [↓SD, SU, simprocAttr, List.take_zero, List.map_nil, hlm])
  rintro ⟨k, u⟩ hk
  dsimp only at hk ⊢
  by_cases hlt : k < l.length
  ·have e := getD_map av l k .top hlt
   have hm := AG (List.getElem_mem hlt)
   have ht : (l.take (k + 1)).map (av : BK → AV) = (l.take k).map av ++ [av l[k]] := by rw [List.take_succ_eq_append_getElem hlt, List.map_append]; rfl
   have hkl : ((l.take k).map (av : BK → AV)).length = k := by simp; omega
   generalize (l.take k).map (av : BK → AV) = T at *
   have hTt : List.take k T = T := List.take_of_length_le (by omega)
   generalize l[k] = t at *
   have hbt : Ac.bulk t = Ac.bulk t.name + Ac.bulk t.params + Ac.bulk t.cons + 1 := rfl
   have hcl := Ag t.cons
   rw [BJ] at e ht
   simp +contextual -dsimp (maxSteps := 2000000) only [↓SD, SU, simprocAttr, Aa, hlt, e, hlm]
   intro v5 v25
   refine Am (X := TvS) (fun x => ⟨[(2, .ptr 2 v2 0 0), (3, .ptr 3 v3 0 0), (5, .ptr 5 v5 0 0), (6, .row 25 x.u x.j), (19, .sl (l.map av)), (20, .int .i64 l.length), (21, .int .i64 k), (27, .sl (t.cons.map av)), (28, .int .i64 t.cons.length), (29, .int .i64 x.j)], [(3, ⟨v3, false, 31, 2, [.agg [.row 51 u k, .sl (L.map av)]]⟩), (51, ⟨u, false, 72, 3, T⟩), (2, ⟨v2, false, 31, 2, [.agg [.Aj, .Aj]]⟩), (5, ⟨v5, false, 72, 3, [.agg [.str t.name, .int .i64 t.params, .sl (t.cons.map av)]]⟩), (25, ⟨x.u, false, 77, 3, (t.cons.take x.j).map av⟩)]⟩) (fun x => x.j ≤ t.cons.length) (fun x => t.cons.length - x.j) ⟨0, v25, 0⟩ (Nat.zero_le _) (by simp +contextual -dsimp only [↓SD, SU, simprocAttr, Aa]) (by simp +contextual -dsimp only [↓SD, SU, simprocAttr, List.take_zero, List.map_nil]) ?_
   rintro ⟨j, w, _⟩ hj
   dsimp only at hj ⊢
   by_cases hlj : j < t.cons.length
   ·have e2 := getD_map av t.cons j .top hlj
    have hmj := AG (List.getElem_mem hlj)
    have ht2 : (t.cons.take (j + 1)).map (av : Con → AV) = (t.cons.take j).map av ++ [av t.cons[j]] := by rw [List.take_succ_eq_append_getElem hlj, List.map_append]; rfl
    have hjl : ((t.cons.take j).map (av : Con → AV)).length = j := by simp; omega
    generalize (t.cons.take j).map (av : Con → AV) = V at *
    have hVt : List.take j V = V := List.take_of_length_le (by omega)
    generalize t.cons[j] = c at *
    have hb1 : Ac.bulk c = Ac.bulk c.name + Ac.bulk c.has + Ac.bulk c.arg + 1 := rfl
    have hb2 : Ac.bulk c.arg = Ac.bulk c.arg.items + 1 := rfl
    have hl1 := Ag c.arg.items
    have hic : ∀ x ∈ c.arg.items.map (av : Bb → AV), x.cells.length = 3 := fun x hx => by obtain ⟨y, _, rfl⟩ := List.mem_map.1 hx; exact AVal.len y
    have him : ∀ hp, (c.arg.items.map (av : Bb → AV)).map (AV.pur hp) = c.arg.items.map av := fun hp => AK _ hp
    have hit : List.take c.arg.items.length (c.arg.items.map (av : Bb → AV)) = c.arg.items.map av := List.take_of_length_le (by simp)
    rw [Cq] at e2 ht2
    simp +contextual -dsimp (maxSteps := 2000000) only [↓SD, SU, simprocAttr, Aa, hlj, e2, him, hit, hjl, hVt, hlm]
    intro v8 v33
    refine ⟨⟨hic, by omega, by unfold maxLen; omega⟩, fun v28 => ?_⟩
    refine ⟨⟨by omega, by unfold maxLen; omega⟩, fun w' => ⟨by omega, Af.le ⟨⟨j + 1, w', 0⟩, ⟨hlj, (by first | omega | (simp only; omega))⟩, rfl⟩ (by simp +contextual -dsimp only [↓SD, SU, simprocAttr, Int.natCast_add]) (by simp +contextual -dsimp only [↓SD, SU, simprocAttr, ht2])⟩⟩
   ·obtain rfl : j = t.cons.length := by omega
    rw [List.take_length]
    have hcm : ∀ hp, (t.cons.map (av : Con → AV)).map (AV.pur hp) = t.cons.map av := fun hp => AK _ hp
    have hct : List.take t.cons.length (t.cons.map (av : Con → AV)) = t.cons.map av := List.take_of_length_le (by simp)
    simp +contextual -dsimp (maxSteps := 2000000) only [↓SD, SU, simprocAttr, Nat.lt_irrefl]
    refine Eh (Af.frz 25 (Af.pur 6 (Af.here ?_)))
    simp +contextual -dsimp (maxSteps := 2000000) only [↓SD, SU, simprocAttr, hcm, hct, Aa, Nat.le_refl, hkl, hTt, hlm]
    refine ⟨⟨by omega, by unfold maxLen; omega⟩, fun u' => ⟨by omega, Af.le ⟨⟨k + 1, u'⟩, ⟨hlt, (by first | omega | (simp only; omega))⟩, rfl⟩ (by simp +contextual -dsimp only [↓SD, SU, simprocAttr, Int.natCast_add]) (by simp +contextual -dsimp only [↓SD, SU, simprocAttr, ht])⟩⟩
  ·obtain rfl : k = l.length := by omega
   rw [List.take_length]
   have hcm : ∀ hp, (l.map (av : BK → AV)).map (AV.pur hp) = l.map av := fun hp => AK _ hp
   have hct : List.take l.length (l.map (av : BK → AV)) = l.map av := List.take_of_length_le (by simp)
   simp +contextual -dsimp (maxSteps := 2000000) only [↓SD, SU, simprocAttr, Nat.lt_irrefl, hcm, hct, Aa, Nat.le_refl, hlm]
end Go.Proofs.YtppjinmlfcokaaaGreat
set_option linter.unusedVariables false
set_option maxRecDepth 100000
namespace Go.Proofs.YtppjinmlfcokaaaGreat
open Go.Proofs.YtppjinmlfcokaaaGreat.Av

theorem K3 : Tryz.prog.follows .mixedOrders = true := by kernel_rfl

def EO : Ir Tryz.prog 11 [(12,7775),(14,7775), (15, 7777), (16, 7777), (31, 7777)] [9999, 6] 2 := ⟨_, _, Tryz.func11, K3, by kernel_rfl, Ah [10003] Tryz.progTables (by conv => lhs; cbv) (by kernel_rfl)⟩
def FZ : Ir Tryz.prog 10 [(2,2)] [] 2 := ⟨_, _, Tryz.func10, K3, by kernel_rfl, Ah [] Tryz.progTables (by conv => lhs; cbv) (by kernel_rfl)⟩
end Go.Proofs.YtppjinmlfcokaaaGreat
set_option linter.unusedVariables false
set_option linter.unusedSimpArgs false
set_option maxRecDepth 100000
namespace Go.Proofs.YtppjinmlfcokaaaGreat
open Go.RowKit Go.Proofs.YtppjinmlfcokaaaGreat.Av Go.Proofs.YtppjinmlfcokaaaGreat.Ml
open Go.Proofs.YtppjinmlfcokaaaGreat.Av.AVal (av)

theorem EI {q : Program} (h : SmP 2100000 q) : Ac.bulk q ≤ 4294967296 := by have := h.bulk; omega
theorem NF {q : Program} (h : SmP 2100000 q) : SmP 2100000 (Dh AW q) := To XI (EI h) h
theorem EH {q : Program} (h : SmP 2100000 q) : SmP 2100000 (Dh AR q) := To Yq (EI h) h
theorem Aa2 {q : Program} (h : SmP 2100000 q) : SmP 2100000 (Dh AE q) := To (HP (by decide)) (EI h) h
theorem Tl {q : Program} (h : SmP 2100000 q) : SmP 2100000 (Uo q) := by
 unfold Uo
 refine Aa2 (EH ?_)
 split
 ·exact NF h
 ·exact h
structure SmS where
 i : Nat
 q : Program
theorem lt_min {i : Nat} {r : Int} : ((i : Int) < r ∧ (i : Int) < 20) ↔ i < min r.toNat 20 := by omega
theorem Ab7 {p : Program} (hx : Ac.bulk p ≤ 1048576) : Db p = true → SmP 2100000 p := fun hb => by -- 
 have hx2 : Ac.bulk p ≤ 4294967296 := by omega
 have h1 : Ac.bulk p = Ac.bulk p.types + Ac.bulk p.nodes + 1 := rfl
 exact ⟨by omega, (CJ hx2 hb).2.1, fun n hn => by have := AG hn; omega⟩
theorem Aa4 {p : Program} (hx : Ac.bulk p ≤ 1048576) (r : Int) : Eo p r = ⟨[], []⟩ ∨ SmP 2100000 (Eo p r) := by -- 
 unfold Eo
 have hx2 : Ac.bulk p ≤ 4294967296 := by omega
 by_cases hb : Db p = true
 ·rw [if_pos hb, I1 (CJ hx2 hb).2.2.1]
  refine .inr ?_
  have h := Ab7 hx hb
  generalize min r.toNat 20 = n
  clear hx hx2 hb
  induction n generalizing p with
  | zero => exact h
  | succ n ih => exact ih (Tl h)
 ·rw [if_neg hb]; exact .inl rfl
theorem XJ {p : Program} (hx : Ac.bulk p ≤ 1048576) (r : Int) : SmP 2100000 (Eo p r) := by -- 
 rcases Aa4 hx r with h | h
 ·rw [h]; exact ⟨by decide, by decide, fun n hn => by cases hn⟩
 ·exact h
set_option maxHeartbeats 4000000 in
theorem QX (p : Program) (r : Int) (hr : -9223372036854775808 ≤ r ∧ r ≤ 9223372036854775807) (hx : Ac.bulk p ≤ 4294967296) (hs : Db p = true → SmP 2100000 p) : Ak Tryz.prog 10 [av p, .int .i64 r] (av (Eo p r)) := by
 obtain ⟨q1, q2, q3, q4⟩ := Ck hx
 have C := EG p hx
 rw [Ad] at C
 cases hb : Db p with
 | false =>
  rw [hb] at C
  have e : Eo p r = ⟨[], []⟩ := by rw [Eo, if_neg (by rw [hb]; simp)]
  rw [e]
  refine DK (r := .agg [.Aj, .Aj]) (FZ.F rfl (by simp; exact ⟨AVal.clean p, Bo _⟩) (Ae.agg (by simp; exact Ae.Aj)) ?_) (fun S w v h => TB h)
  simp +contextual -dsimp (maxSteps := 2000000) only [↓SD, SU, simprocAttr, FZ, Ad]
  intro v2 v4
  refine Ab _ C ?_
  simp +contextual -dsimp (maxSteps := 2000000) only [↓SD, SU, simprocAttr]
 | true =>
  rw [hb] at C
  have hs := hs hb
  obtain ⟨f1, f2, f3, f4, f5⟩ := CJ hx hb
  have hk : ∀ i, i < p.nodes.length → ∀ k ∈ Bp p.nodes i, (i : Int) < k ∧ k < p.nodes.length := fun i hi k hk => DM f3 hi hk
  have G := Lr p hk q2 p.nodes.length 0 (by omega) (by omega)
  rw [show Bx p.nodes p.nodes.length 0 = A2 p.nodes 0 from rfl, Ad] at G
  have hsz := (D5 hx hb).2.2.2.1
  have CP := IB p (A2 p.nodes 0) q1 hsz
  rw [I1 f3, Ad] at CP
  have e : Eo p r = Fp (min r.toNat 20) p := by rw [Eo, if_pos hb, I1 f3]
  rw [e]
  refine FZ.F rfl (by simp; exact ⟨AVal.clean p, Bo _⟩) (AVal.clean _) ?_
  simp +contextual -dsimp (maxSteps := 2000000) only [↓SD, SU, simprocAttr, FZ, Ad]
  intro v2 v4
  refine Ab _ C ?_
  simp +contextual -dsimp (maxSteps := 2000000) only [↓SD, SU, simprocAttr]
  repeat' (refine And.intro ?_ ?_)
  all_goals
   refine Ab _ G ?_
   simp +contextual -dsimp (maxSteps := 2000000) only [↓SD, SU, simprocAttr, AP]
   refine Ab _ CP ?_
   simp +contextual -dsimp (maxSteps := 2000000) only [↓SD, SU, simprocAttr, AK]
   refine Am (X := SmS) (fun x => ⟨[(1, .int .i64 r), (2, .ptr 2 v2 0 0), (4, .ptr 4 v4 0 0), (5, .int .i64 x.i)], [(2, ⟨v2, false, 31, 2, [.agg [.sl (x.q.types.map av), .sl (x.q.nodes.map av)]]⟩), (4, ⟨v4, false, 31, 2, [.agg [.Aj, .Aj]]⟩)]⟩) (fun x => SmP 2100000 x.q ∧ x.i ≤ min r.toNat 20 ∧ Fp (min r.toNat 20 - x.i) x.q = Fp (min r.toNat 20) p) (fun x => min r.toNat 20 - x.i) ⟨0, p⟩ ⟨hs, Nat.zero_le _, rfl⟩ (by simp +contextual -dsimp only [↓SD, SU, simprocAttr]) (by simp +contextual -dsimp only [↓SD, SU, simprocAttr]) ?_
   clear C G CP e hs hb hk f1 f2 f3 f4 f5 q1 q2 q3 q4 hx hsz
   rintro ⟨i, q⟩ ⟨hq, hi, he⟩
   dsimp only at hq hi he ⊢
   by_cases hlt : i < min r.toNat 20
   ·obtain ⟨l1, l2⟩ := lt_min.2 hlt
    have CS := QW q (EI hq)
    have hst := hq
    have hsp := NF hq
    have hstep : Uo q = Dh AE (Dh AR (if 0 < (Dh AW q).nodes.length then Dh AW q else q)) := rfl
    have hsm := Tl hq
    rw [show min r.toNat 20 - i = (min r.toNat 20 - (i + 1)) + 1 by omega, Fp] at he
    rw [hstep] at he hsm
    generalize Dh AW q = s at *
    rw [Ad, Ad] at CS
    simp +contextual -dsimp (maxSteps := 2000000) only [↓SD, SU, simprocAttr, l1, l2]
    refine Ab _ CS ?_
    simp +contextual -dsimp (maxSteps := 2000000) only [↓SD, SU, simprocAttr, AK, Aa]
    intro v6
    by_cases h0 : s.nodes.length = 0
    ·rw [if_neg (by omega)] at he hsm
     have CC := LB q (EI hq)
     have CF := N6 _ (EI (EH hq)) (EH hq).2.2
     generalize Dh AR q = c at *
     generalize Dh AE c = f at *
     rw [Ad, Ad] at CC CF
     have h1 : ((s.nodes.length : Int) = 0) := by omega
     simp +contextual -dsimp (maxSteps := 2000000) only [↓SD, SU, simprocAttr, AK, Aa, h1]
     refine Ab _ CC ?_
     simp +contextual -dsimp (maxSteps := 2000000) only [↓SD, SU, simprocAttr, AK]
     refine Ab _ CF ?_
     simp +contextual -dsimp (maxSteps := 2000000) only [↓SD, SU, simprocAttr, AK]
     exact ⟨by omega, Af.le ⟨⟨i + 1, f⟩, ⟨⟨hsm, hlt, he⟩, (by first | omega | (simp only; omega))⟩, rfl⟩ (by simp +contextual -dsimp only [↓SD, SU, simprocAttr, Int.natCast_add]) (by simp +contextual -dsimp only [↓SD, SU, simprocAttr])⟩
    ·rw [if_pos (by omega)] at he hsm
     have CC := LB s (EI hsp)
     have CF := N6 _ (EI (EH hsp)) (EH hsp).2.2
     generalize Dh AR s = c at *
     generalize Dh AE c = f at *
     rw [Ad, Ad] at CC CF
     have h1 : ¬ ((s.nodes.length : Int) = 0) := by omega
     simp +contextual -dsimp (maxSteps := 2000000) only [↓SD, SU, simprocAttr, AK, Aa, h1]
     refine Ab _ CC ?_
     simp +contextual -dsimp (maxSteps := 2000000) only [↓SD, SU, simprocAttr, AK]
     refine Ab _ CF ?_
     simp +contextual -dsimp (maxSteps := 2000000) only [↓SD, SU, simprocAttr, AK]
     exact ⟨by omega, Af.le ⟨⟨i + 1, f⟩, ⟨⟨hsm, hlt, he⟩, (by first | omega | (simp only; omega))⟩, rfl⟩ (by simp +contextual -dsimp only [↓SD, SU, simprocAttr, Int.natCast_add]) (by simp +contextual -dsimp only [↓SD, SU, simprocAttr])⟩
   ·have hi2 : i = min r.toNat 20 := by omega
    rw [hi2, Nat.sub_self, Fp] at he
    rw [← he]
    by_cases l1 : (i : Int) < r
    ·have l2 : ¬ (i : Int) < 20 := fun h => hlt (lt_min.1 ⟨l1, h⟩)
     simp +contextual -dsimp (maxSteps := 2000000) only [↓SD, SU, simprocAttr, l1, l2, AK]
    ·simp +contextual -dsimp (maxSteps := 2000000) only [↓SD, SU, simprocAttr, l1, AK]
end Go.Proofs.YtppjinmlfcokaaaGreat
