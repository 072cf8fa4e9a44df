/-
 Fold OF THE REFERENCE: the whole. Conditions: none.
-/
import Derived.Test.YtppjinmlfcokaaaGreatVFldS
import Derived.Test.YtppjinmlfcokaaaGreatProg
import Derived.Test.YtppjinmlfcokaaaGreatVAvDraw
import Derived.Test.YtppjinmlfcokaaaGreatVJ44
import Derived.Test.YtppjinmlfcokaaaGreatVJ36
import Derived.Test.YtppjinmlfcokaaaGreatVJ38
import Derived.Test.YtppjinmlfcokaaaGreatVJ35
set_option linter.unusedVariables false
set_option linter.unusedSimpArgs false
set_option maxRecDepth 100000
namespace Go.Proofs.YtppjinmlfcokaaaGreat
open Go.RowKit Go.Proofs.YtppjinmlfcokaaaGreat.Av Go.Proofs.YtppjinmlfcokaaaGreat.Ml
open Go.Proofs.YtppjinmlfcokaaaGreat.Av.AVal (av)

set_option maxHeartbeats 4000000 in
theorem Uv (p : Program) (hx : Ac.bulk p ≤ 4294967296) (hB : ∀ n ∈ p.nodes, Ac.bulk n ≤ 2100000) : Ah Tryz.prog 17 [av p] (av (Dj Az p)) := by
 obtain ⟨q1, q2, q3, q4⟩ := CD hx
 have C := Du p hx
 rw [Ag] at C
 cases hb : Bv p with
 | false =>
  rw [hb] at C
  have e : Dj Az p = ⟨[], []⟩ := by rw [Dj, if_neg (by rw [hb]; simp)]
  rw [e]
  refine Eo (r := .agg [.An, .An]) (Hk.F rfl (by simp; exact AVal.clean p) (Ad.agg (by simp; exact Ad.An)) ?_) (fun S w v h => X8 h)
  simp +contextual -dsimp (maxSteps := 2000000) only [↓SD, SU, simprocAttr, Hk, Ag]
  intro v2
  refine Aa _ C ?_
  simp +contextual -dsimp (maxSteps := 2000000) only [↓SD, SU, simprocAttr]
 | true =>
  rw [hb] at C
  obtain ⟨f1, f2, f3, f4, f5⟩ := Dk hx hb
  have hk : ∀ i, i < p.nodes.length → ∀ k ∈ Aq p.nodes i, (i : Int) < k ∧ k < p.nodes.length := fun i hi k hk => Ef f3 hi hk
  have G := Nt p hk q2 p.nodes.length 0 (by omega) (by omega)
  rw [show Bw p.nodes p.nodes.length 0 = Al p.nodes 0 from rfl, Ag] at G
  have hT := Te hx hb hB
  have hsz := (Fv hx hb).2.2.2.1
  have CS := Yg _ hT hsz
  have hR := GM Je O5 (HQ (B := 2100000) (by decide)) _ hT
  have CL := LN (AZ Az (Al p.nodes 0)) (by omega)
  have e : Dj Az p = ⟨p.types, Bz 0 (AZ Az (Al p.nodes 0))⟩ := by rw [Dj, if_pos hb]
  rw [e, Ag]
  refine Hk.F rfl (by simp; exact AVal.clean p) (AVal.clean (⟨p.types, Bz 0 (AZ Az (Al p.nodes 0))⟩ : Program)) ?_
  clear e hR hT
  generalize AZ Az (Al p.nodes 0) = T' at *
  generalize Al p.nodes 0 = T at *
  generalize Bz 0 T' = L at *
  have hlm : ∀ hp, (L.map (av : Node → AV)).map (AV.pur hp) = L.map av := fun hp => AB _ hp
  have hl := Ai p.types
  generalize p.types = l at *
  simp +contextual -dsimp (maxSteps := 2000000) only [↓SD, SU, simprocAttr, Hk, Ag]
  intro v2
  refine Aa _ C ?_
  simp +contextual -dsimp (maxSteps := 2000000) only [↓SD, SU, simprocAttr]
  refine Aa _ G ?_
  simp +contextual -dsimp (maxSteps := 2000000) only [↓SD, SU, simprocAttr, AQ]
  refine Aa _ CS ?_
  simp +contextual -dsimp (maxSteps := 2000000) only [↓SD, SU, simprocAttr, AQ]
  refine Aa _ CL ?_
  simp +contextual -dsimp (maxSteps := 2000000) only [↓SD, SU, simprocAttr, hlm]
  intro v3
  refine DU (X := TwS) (fun x => ⟨[(2, .ptr 2 v2 0 0), (3, .ptr 3 v3 0 0), (19, .sl (l.map av)), (20, .int .i64 l.length), (21, .int .i64 x.k)], [(3, ⟨v3, false, 31, 2, [.agg [.row 51 x.u x.k, .sl (L.map av)]]⟩), (51, ⟨x.u, false, 72, 3, (l.take x.k).map av⟩), (2, ⟨v2, false, 31, 2, [.agg [.An, .An]]⟩)]⟩) (fun x => x.k ≤ l.length) (fun x => l.length - x.k) ?_ ?_
  ·refine Af.FC 3 0 0 51 72 3 rfl rfl Nat.zero_lt_one rfl (by decide) fun z => ?_
   exact Af.le ⟨⟨0, z⟩, Nat.zero_le _, rfl⟩ (by simp +contextual -dsimp only [↓SD, SU, simprocAttr, Ab]) (by simp +contextual -dsimp only [↓SD, SU, simprocAttr, List.take_zero, List.map_nil, hlm])
  rintro ⟨k, u⟩ hk
  dsimp only at hk ⊢
  by_cases hlt : k < l.length
  ·have e := getD_map av l k .top hlt
   have hm := Au (List.getElem_mem hlt)
   have ht : (l.take (k + 1)).map (av : BF → AV) = (l.take k).map av ++ [av l[k]] := by rw [List.take_succ_eq_append_getElem hlt, List.map_append]; rfl
   have hkl : ((l.take k).map (av : BF → AV)).length = k := by simp; omega
   generalize (l.take k).map (av : BF → AV) = T at *
   have hTt : List.take k T = T := List.take_of_length_le (by omega)
   generalize l[k] = t at *
   have hbt : Ac.bulk t = Ac.bulk t.name + Ac.bulk t.params + Ac.bulk t.cons + 1 := rfl
   have hcl := Ai t.cons
   rw [BE] at e ht
   simp +contextual -dsimp (maxSteps := 2000000) only [↓SD, SU, simprocAttr, Ab, hlt, e, hlm]
   intro v5 v25
   refine Am (X := TvS) (fun x => ⟨[(2, .ptr 2 v2 0 0), (3, .ptr 3 v3 0 0), (5, .ptr 5 v5 0 0), (6, .row 25 x.u x.j), (19, .sl (l.map av)), (20, .int .i64 l.length), (21, .int .i64 k), (27, .sl (t.cons.map av)), (28, .int .i64 t.cons.length), (29, .int .i64 x.j)], [(3, ⟨v3, false, 31, 2, [.agg [.row 51 u k, .sl (L.map av)]]⟩), (51, ⟨u, false, 72, 3, T⟩), (2, ⟨v2, false, 31, 2, [.agg [.An, .An]]⟩), (5, ⟨v5, false, 72, 3, [.agg [.str t.name, .int .i64 t.params, .sl (t.cons.map av)]]⟩), (25, ⟨x.u, false, 77, 3, (t.cons.take x.j).map av⟩)]⟩) (fun x => x.j ≤ t.cons.length) (fun x => t.cons.length - x.j) ⟨0, v25, 0⟩ (Nat.zero_le _) (by simp +contextual -dsimp only [↓SD, SU, simprocAttr, Ab]) (by simp +contextual -dsimp only [↓SD, SU, simprocAttr, List.take_zero, List.map_nil]) ?_
   rintro ⟨j, w, _⟩ hj
   dsimp only at hj ⊢
   by_cases hlj : j < t.cons.length
   ·have e2 := getD_map av t.cons j .top hlj
    have hmj := Au (List.getElem_mem hlj)
    have ht2 : (t.cons.take (j + 1)).map (av : Con → AV) = (t.cons.take j).map av ++ [av t.cons[j]] := by rw [List.take_succ_eq_append_getElem hlj, List.map_append]; rfl
    have hjl : ((t.cons.take j).map (av : Con → AV)).length = j := by simp; omega
    generalize (t.cons.take j).map (av : Con → AV) = V at *
    have hVt : List.take j V = V := List.take_of_length_le (by omega)
    generalize t.cons[j] = c at *
    have hb1 : Ac.bulk c = Ac.bulk c.name + Ac.bulk c.has + Ac.bulk c.arg + 1 := rfl
    have hb2 : Ac.bulk c.arg = Ac.bulk c.arg.items + 1 := rfl
    have hl1 := Ai c.arg.items
    have hic : ∀ x ∈ c.arg.items.map (av : AY → AV), x.cells.length = 3 := fun x hx => by obtain ⟨y, _, rfl⟩ := List.mem_map.1 hx; exact AVal.len y
    have him : ∀ hp, (c.arg.items.map (av : AY → AV)).map (AV.pur hp) = c.arg.items.map av := fun hp => AB _ hp
    have hit : List.take c.arg.items.length (c.arg.items.map (av : AY → AV)) = c.arg.items.map av := List.take_of_length_le (by simp)
    rw [Ck] at e2 ht2
    simp +contextual -dsimp (maxSteps := 2000000) only [↓SD, SU, simprocAttr, Ab, hlj, e2, him, hit, hjl, hVt, hlm]
    intro v8 v33
    refine ⟨⟨hic, by omega, by unfold maxLen; omega⟩, fun v28 => ?_⟩
    refine ⟨⟨by omega, by unfold maxLen; omega⟩, fun w' => ⟨by omega, Af.le ⟨⟨j + 1, w', 0⟩, ⟨hlj, (by first | omega | (simp only; omega))⟩, rfl⟩ (by simp +contextual -dsimp only [↓SD, SU, simprocAttr, Int.natCast_add]) (by simp +contextual -dsimp only [↓SD, SU, simprocAttr, ht2])⟩⟩
   ·obtain rfl : j = t.cons.length := by omega
    rw [List.take_length]
    have hcm : ∀ hp, (t.cons.map (av : Con → AV)).map (AV.pur hp) = t.cons.map av := fun hp => AB _ hp
    have hct : List.take t.cons.length (t.cons.map (av : Con → AV)) = t.cons.map av := List.take_of_length_le (by simp)
    simp +contextual -dsimp (maxSteps := 2000000) only [↓SD, SU, simprocAttr, Nat.lt_irrefl]
    refine EK (Af.frz 25 (Af.pur 6 (Af.here ?_)))
    simp +contextual -dsimp (maxSteps := 2000000) only [↓SD, SU, simprocAttr, hcm, hct, Ab, Nat.le_refl, hkl, hTt, hlm]
    refine ⟨⟨by omega, by unfold maxLen; omega⟩, fun u' => ⟨by omega, Af.le ⟨⟨k + 1, u'⟩, ⟨hlt, (by first | omega | (simp only; omega))⟩, rfl⟩ (by simp +contextual -dsimp only [↓SD, SU, simprocAttr, Int.natCast_add]) (by simp +contextual -dsimp only [↓SD, SU, simprocAttr, ht])⟩⟩
  ·obtain rfl : k = l.length := by omega
   rw [List.take_length]
   have hcm : ∀ hp, (l.map (av : BF → AV)).map (AV.pur hp) = l.map av := fun hp => AB _ hp
   have hct : List.take l.length (l.map (av : BF → AV)) = l.map av := List.take_of_length_le (by simp)
   simp +contextual -dsimp (maxSteps := 2000000) only [↓SD, SU, simprocAttr, Nat.lt_irrefl, hcm, hct, Ab, Nat.le_refl, hlm]
end Go.Proofs.YtppjinmlfcokaaaGreat
set_option linter.unusedVariables false
set_option maxRecDepth 100000
set_option linter.unusedVariables false
set_option linter.unusedSimpArgs false
set_option maxRecDepth 100000
namespace Go.Proofs.YtppjinmlfcokaaaGreat
open Go.RowKit Go.Proofs.YtppjinmlfcokaaaGreat.Av Go.Proofs.YtppjinmlfcokaaaGreat.Ml
open Go.Proofs.YtppjinmlfcokaaaGreat.Av.AVal (av)

theorem Aev {q : Program} (h : SmP 2100000 q) : Ac.bulk q ≤ 4294967296 := by have := h.bulk; omega
structure SmS where
 i : Nat
 q : Program
theorem Ae7 {p : Program} (hx : Ac.bulk p ≤ 1048576) : Bv p = true → SmP 2100000 p := fun hb => by -- 
 have hx2 : Ac.bulk p ≤ 4294967296 := by omega
 have h1 : Ac.bulk p = Ac.bulk p.types + Ac.bulk p.nodes + 1 := rfl
 exact ⟨by omega, (Dk hx2 hb).2.1, fun n hn => by have := Au hn; omega⟩
end Go.Proofs.YtppjinmlfcokaaaGreat
set_option linter.unusedVariables false
set_option linter.unusedSimpArgs false
set_option maxRecDepth 100000
namespace Go.Proofs.YtppjinmlfcokaaaGreat
open Go.RowKit Go.Proofs.YtppjinmlfcokaaaGreat.Av Go.Proofs.YtppjinmlfcokaaaGreat.Ml
open Go.Proofs.YtppjinmlfcokaaaGreat.Av.AVal (av)
open OVal (ov oh on)

def Gf (s : ByteArray) (a n : Node) (ks : List Tr) (j : Nat) : List Tr := BG s a n 0 (ks.take j) ++ ks.drop j
theorem VG {s : ByteArray} {a n : Node} {ks : List Tr} {j : Nat} (h : j ≤ ks.length) : (Gf s a n ks j).length = ks.length := by simp [Gf, DR]; omega
theorem Adj {s : ByteArray} {a n : Node} {ks : List Tr} {j : Nat} (h : j < ks.length) (h2 : j < (Gf s a n ks j).length) : (Gf s a n ks j)[j] = ks[j] := by
 simp only [Gf]
 rw [List.getElem_append_right (by rw [DR]; simp; omega)]
 simp [DR, Nat.min_eq_left (Nat.le_of_lt h)]
theorem Po {s : ByteArray} {a n : Node} : ∀ (l : List Tr) (t : Tr) (i : Nat), BG s a n i (l ++ [t]) = BG s a n i l ++ [if B1 n (i + l.length) s = true then t else De s a t]
 | [], t, i => by simp [BG]
 | x :: r, t, i => by rw [List.cons_append, BG, BG, Po r, List.cons_append, List.length_cons, show i + 1 + r.length = i + (r.length + 1) by omega]
theorem Adi {s : ByteArray} {a n : Node} {ks : List Tr} {j : Nat} (h : j < ks.length) : (Gf s a n ks j).set j (if B1 n j s = true then ks[j] else De s a ks[j]) = Gf s a n ks (j + 1) := by
 have ht : (ks.take j).length = j := by simp; omega
 have hr : (BG s a n 0 (ks.take j)).length = j := by rw [DR, ht]
 simp only [Gf]
 rw [List.set_append_right _ _ (by omega), hr, Nat.sub_self, List.drop_eq_getElem_cons h, List.set_cons_zero, List.take_succ_eq_append_getElem h, Po, ht, Nat.zero_add, List.append_assoc]
 rfl
theorem Adk (s : ByteArray) (a n : Node) (ks : List Tr) : Gf s a n ks ks.length = BG s a n 0 ks := by simp [Gf]
set_option maxHeartbeats 4000000 in
theorem UX (s : ByteArray) (hs : s.size ≤ 4294967296) (a : Node) (ha : a.Ae = []) : ∀ t : Tr, t.rk → t.size ≤ 600 → ∀ nm vs, Bu Tryz.prog 121 [ov nm vs t, .str s, av (Tr.mk a [])] (oh nm vs t) (DC nm (De s a t)) := by
 refine Tr.ind fun n ks ih hrk hsz nm vs => ?_
 rw [Tr.rk] at hrk
 rw [Tr.size] at hsz
 have hkl := Cy ks
 have hav : av (Tr.mk a []) = .obj [.int .i64 a.kind, .int .i64 a.pos, .int .i64 a.n, .str a.s, .sl [], .sl []] := by rw [FL, ha]; rfl
 rw [hav] at ih ⊢
 obtain ⟨K, hK⟩ : ∃ K, K = sub nm 0 := ⟨_, rfl⟩
 have hKg : 10000 ≤ K := by rw [hK]; exact Cm _ _
 have hKm : K ≠ nm := by rw [hK]; exact fun e => (InT.root (nm := sub nm 0)).ne e
 obtain ⟨H0, hH0⟩ : ∃ H0, H0 = oh nm vs (Tr.mk n ks) := ⟨_, rfl⟩
 have hs0 : AR H0 (oh nm vs (Tr.mk n ks)) := by rw [hH0]; exact OVal.self _ _ _
 obtain ⟨q1, q2, q3, q4⟩ := DW hs0
 rw [← hK] at q1 q2
 rw [← hH0]
 by_cases h3 : n.kind = 3
 ·have E3 := eq_true h3
  have hks : ks = [] := List.eq_nil_of_length_eq_zero (hrk.1.1 (.inr (.inr (.inl h3))))
  subst hks
  by_cases hn : n.s = s
  ·have En := eq_true hn
   have e : De s a (.mk n []) = .mk { a with pos := n.pos } [] := by rw [De, if_pos h3, if_pos hn]
   rw [e]
   refine CK.H rfl ?_
   simp +contextual -dsimp (maxSteps := 2000000) only [↓SD, SU, simprocAttr, CK, AD, q1, q2, exB, E3, En]
   intro w
   have z0 : 10000 ≤ sub nm 0 := Cm _ _
   have z1 : 10000 ≤ sub nm 1 := Cm _ _
   have z2 : sub nm 0 ≠ sub nm 1 := fun e => by have := (ER e).2; omega
   have z3 := Eu nm 0
   have z4 := Eu nm 1
   refine Af.FC 38 0 4 (sub nm 0) 55 1 BH rfl Nat.zero_lt_one rfl (by omega) fun u1 => ?_
   refine Af.FC 38 0 5 (sub nm 1) 86 1 (b := ⟨w, false, 102, 6, [.agg [.int .i64 a.kind, .int .i64 n.pos, .int .i64 a.n, .str a.s, .row (sub nm 0) u1 0, .An]]⟩) (by rw [BL (by omega)]; exact BH) rfl Nat.zero_lt_one rfl (by omega) fun u2 => ?_
   refine Af.Af4 6 38 nm (v := w) (a := 0) (o := 0) rfl (by rw [BL (by omega)]; exact BH) rfl fun w' => ?_
   obtain ⟨va, hva⟩ : ∃ va : Nat → Nat, va = fun q => if q = nm then w' else if q = sub nm 0 then u1 else u2 := ⟨_, rfl⟩
   have c1 : va nm = w' := by rw [hva]; simp
   have c2 : va (sub nm 0) = u1 := by rw [hva]; dsimp only; rw [if_neg (by omega), if_pos rfl]
   have c3 : va (sub nm 1) = u2 := by rw [hva]; dsimp only; rw [if_neg (by omega), if_neg (fun e => z2 e.symm)]
   have hoh : oh nm va (Tr.mk { a with pos := n.pos } []) = [(sub nm 0, ⟨u1, false, 55, 1, []⟩), (sub nm 1, ⟨u2, false, 86, 1, []⟩), (nm, ⟨w', false, 102, 6, [.agg [.int .i64 a.kind, .int .i64 n.pos, .int .i64 a.n, .str a.s, .row (sub nm 0) u1 0, .row (sub nm 1) u2 0]]⟩)] := by
    rw [N5, Cn, Cn, ha, Gg, Gg, c1, c2, c3, exB]; rfl
   dsimp only
   obtain ⟨H, hH⟩ : ∃ H, H = ((nm, (⟨w', false, 102, 6, [.agg [.int .i64 a.kind, .int .i64 n.pos, .int .i64 a.n, .str a.s, .row (sub nm 0) u1 0, .row (sub nm 1) u2 0]]⟩ : Box)) :: Ci [38] ((sub nm 1, (⟨u2, false, 86, 1, []⟩ : Box)) :: (38, ⟨w, false, 102, 6, [.agg [.int .i64 a.kind, .int .i64 n.pos, .int .i64 a.n, .str a.s, .row (sub nm 0) u1 0, .row (sub nm 1) u2 0]]⟩) :: (sub nm 0, ⟨u1, false, 55, 1, []⟩) :: (38, ⟨w, false, 102, 6, [.agg [.int .i64 a.kind, .int .i64 n.pos, .int .i64 a.n, .str a.s, .row (sub nm 0) u1 0, .An]]⟩) :: (38, ⟨w, false, 102, 6, [.agg [.int .i64 a.kind, .int .i64 n.pos, .int .i64 a.n, .str a.s, .An, .An]]⟩) :: H0) : Hp) := ⟨_, rfl⟩
   have hle : AR H (oh nm va (Tr.mk { a with pos := n.pos } [])) := by
    rw [hoh, hH]
    refine ⟨?_, ?_, BH, trivial⟩
    ·rw [BL (by omega), BT (by simp; omega), BL (by omega), BL (by omega)]; exact BH
    ·rw [BL (by omega), BT (by simp; omega)]; exact BH
   have hnm : Ao H nm = some ⟨w', false, 102, 6, [.agg [.int .i64 a.kind, .int .i64 n.pos, .int .i64 a.n, .str a.s, .row (sub nm 0) u1 0, .row (sub nm 1) u2 0]]⟩ := by rw [hH]; exact BH
   change Af ⟨_, ((nm, (⟨w', false, 102, 6, [.agg [.int .i64 a.kind, .int .i64 n.pos, .int .i64 a.n, .str a.s, .row (sub nm 0) u1 0, .row (sub nm 1) u2 0]]⟩ : Box)) :: Ci [38] ((sub nm 1, (⟨u2, false, 86, 1, []⟩ : Box)) :: (38, ⟨w, false, 102, 6, [.agg [.int .i64 a.kind, .int .i64 n.pos, .int .i64 a.n, .str a.s, .row (sub nm 0) u1 0, .row (sub nm 1) u2 0]]⟩) :: (sub nm 0, ⟨u1, false, 55, 1, []⟩) :: (38, ⟨w, false, 102, 6, [.agg [.int .i64 a.kind, .int .i64 n.pos, .int .i64 a.n, .str a.s, .row (sub nm 0) u1 0, .An]]⟩) :: (38, ⟨w, false, 102, 6, [.agg [.int .i64 a.kind, .int .i64 n.pos, .int .i64 a.n, .str a.s, .An, .An]]⟩) :: H0) : Hp)⟩ _
   rw [← hH]
   refine Af.post (oh nm va (Tr.mk { a with pos := n.pos } [])) ?_
   simp +contextual -dsimp (maxSteps := 2000000) only [↓SD, SU, simprocAttr, hnm, false_and]
   exact ⟨hle, va, by rw [AD, c1], rfl⟩
  ·have e : De s a (.mk n []) = .mk n [] := by rw [De, if_pos h3, if_neg hn]
   rw [e]
   refine CK.H rfl ?_
   simp +contextual -dsimp (maxSteps := 2000000) only [↓SD, SU, simprocAttr, CK, AD, q1, q2, exB, E3, hn]
   refine Af.post (oh nm vs (Tr.mk n [])) ?_
   simp +contextual -dsimp (maxSteps := 2000000) only [↓SD, SU, simprocAttr, AD, q1, false_and]
   exact ⟨hs0, vs, by rw [AD], rfl⟩
 ·have e : De s a (.mk n ks) = .mk n (BG s a n 0 ks) := by rw [De, if_neg h3]
  have E3 := eq_false h3
  rw [e]
  refine CK.H rfl ?_
  simp +contextual -dsimp (maxSteps := 2000000) only [↓SD, SU, simprocAttr, CK, AD, q1, q2, exB, E3]
  refine Am (X := RwS) (fun x => ⟨[(0, .ptr nm (vs nm) 0 0), (1, .str s), (2, .obj [.int .i64 a.kind, .int .i64 a.pos, .int .i64 a.n, .str a.s, .sl [], .sl []]), (42, .row K (vs K) ks.length), (43, .int .i64 ks.length), (44, .int .i64 x.j)], oh nm x.vs (Tr.mk n (Gf s a n ks x.j))⟩) (fun x => x.j ≤ ks.length ∧ x.vs nm = vs nm ∧ x.vs K = vs K) (fun x => ks.length - x.j) ⟨0, vs⟩ ⟨Nat.zero_le _, rfl, rfl⟩ (by simp +contextual -dsimp only [↓SD, SU, simprocAttr]) (by exact hs0) ?_
  clear q1 q2 q3 q4 hs0 hH0 H0
  rintro ⟨j, v0⟩ ⟨hj, hv1, hv2⟩
  dsimp only at hj hv1 hv2 ⊢
  have hLl := VG (s := s) (a := a) (n := n) hj
  obtain ⟨H0, hH0⟩ : ∃ H0, H0 = oh nm v0 (Tr.mk n (Gf s a n ks j)) := ⟨_, rfl⟩
  have hs0 : AR H0 (oh nm v0 (Tr.mk n (Gf s a n ks j))) := by rw [hH0]; exact OVal.self _ _ _
  obtain ⟨q1, q2, q3, q4⟩ := DW hs0
  rw [← hK] at q1 q2 q3
  rw [hv1, hv2, hLl] at q1
  rw [hv2] at q2
  rw [← hH0]
  by_cases hlt : j < ks.length
  ·have hLj : j < (Gf s a n ks j).length := by omega
   have hg := Adj (s := s) (a := a) (n := n) hlt hLj
   have e1 := Ji K v0 (Gf s a n ks j) hLj .top
   have hel : (ovL K v0 0 (Gf s a n ks j)).length = ks.length := by rw [Dp, hLl]
   have hm := List.getElem_mem hlt
   have hkr := Ch.1 hrk.2 _ hm
   have hks := Cq hm
   have C := ih ks[j] hm hkr (by omega) (sub K j) v0
   have CB := WZ n (Gf s a n ks j) j s hrk.1.2.2.2.2.2.2 (by omega) (fun h => by have := hrk.1.2.2.1 h; omega)
   have q5 := q3 j hLj
   rw [hg] at q5 e1
   have hst := Adi (s := s) (a := a) (n := n) hlt
   have hset := fun v1 (hp : Hp) => Ac3 (K := K) (vs := v0) (v1 := v1) hLj (De s a ks[j]) (hp := hp)
   have hL1 := VG (s := s) (a := a) (n := n) (ks := ks) (j := j + 1) (by omega)
   have hlend : ∀ H, AR H (oh nm v0 (Tr.mk n (Gf s a n ks j))) → (AV.ptr nm (vs nm) 0 0).Cb (BZ (on nm (Tr.mk n (Gf s a n ks j))) H) = av (Tr.mk n (Gf s a n ks j)) := fun H h => by
    have := Z4 (nm := nm) (vs := v0) (y := Tr.mk n (Gf s a n ks j)) h
    rw [AD, hv1] at this
    exact this
   obtain ⟨es0, q0⟩ := Cf q5
   rw [AD] at e1
   rw [AD] at C
   obtain ⟨E, hE⟩ : ∃ E, E = ovL K v0 0 (Gf s a n ks j) := ⟨_, rfl⟩
   rw [← hE] at q2 e1 hel hset
   rw [hv2] at hset
   cases hb : B1 n j s with
   | true =>
    rw [hb] at CB hst
    simp only [if_true] at hst
    simp +contextual -dsimp (maxSteps := 2000000) only [↓SD, SU, simprocAttr, hlt, hel, e1, AD, q0, q1, q2, exB]
    refine Dz (on nm (Tr.mk n (Gf s a n ks j))) CB rfl (A3 (hlend H0 hs0) rfl) ?_
    simp +contextual -dsimp (maxSteps := 2000000) only [↓SD, SU, simprocAttr, hlt, hel, e1, AD, q0, q1, q2, exB]
    have heq : Gf s a n ks (j + 1) = Gf s a n ks j := by rw [← hst, ← hg]; exact List.set_getElem_self hLj
    exact ⟨by omega, Af.le ⟨⟨j + 1, v0⟩, ⟨⟨hlt, hv1, hv2⟩, (by first | omega | (simp only; omega))⟩, rfl⟩ (by simp +contextual -dsimp only [↓SD, SU, simprocAttr, Int.natCast_add]) (by dsimp only; rw [heq]; exact hs0)⟩
   | false =>
    rw [hb] at CB hst
    simp only [Bool.false_eq_true, if_false] at hst
    simp +contextual -dsimp (maxSteps := 2000000) only [↓SD, SU, simprocAttr, hlt, hel, e1, AD, q0, q1, q2, exB]
    refine Dz (on nm (Tr.mk n (Gf s a n ks j))) CB rfl (A3 (hlend H0 hs0) rfl) ?_
    rw [hst] at hset
    simp +contextual -dsimp (maxSteps := 2000000) only [↓SD, SU, simprocAttr, hlt, hel, e1, AD, q0, q1, q2, exB]
    obtain ⟨L, hL⟩ : ∃ L, L = Gf s a n ks j := ⟨_, rfl⟩
    obtain ⟨L', hL'⟩ : ∃ L', L' = Gf s a n ks (j + 1) := ⟨_, rfl⟩
    rw [← hL'] at hset hL1
    generalize De s a ks[j] = t' at *
    generalize ks[j] = t at *
    refine ⟨?_, ?_⟩
    all_goals
     refine Bt (on (sub K j) t) C (GF q5) ?_
     rintro r hp' ⟨v1, rfl, rfl⟩ H hH
     have hKn : ¬ InT (sub K j) K := fun h => h.ne rfl
     have hnn : ¬ InT (sub K j) nm := fun h => by have h1 := h.le; have h2 := Eu nm 0; have h3 := Eu K j; rw [← hK] at h2; omega
     have p1 := K1 hH hnn q1
     have p2 := K1 hH hKn q2
     have ho := ES hH
     obtain ⟨es1, p0⟩ := Cf ho
     simp +contextual -dsimp (maxSteps := 2000000) only [↓SD, SU, simprocAttr, hlt, hel, e1, AD, p0, p1, p2, exB]
     have g1 : glue (sub K j) v1 v0 nm = vs nm := by rw [EJ hnn, hv1]
     have g2 : glue (sub K j) v1 v0 K = vs K := by rw [EJ hKn, hv2]
     have hPn : ∀ q, InT (sub nm 1) q → ¬ InT (sub K j) q := fun q h h2 => by rw [hK] at h2; exact Dn (i := 0) (j := 1) (by omega) h2.up h
     have g3 : glue (sub K j) v1 v0 (sub nm 1) = v0 (sub nm 1) := EJ (hPn _ .root)
     have hPK : ¬ InT (sub nm 1) K := fun h => by rw [hK] at h; exact Dn (i := 0) (j := 1) (by omega) .root h
     refine ⟨by omega, Af.le ⟨⟨j + 1, glue (sub K j) v1 v0⟩, ⟨⟨hlt, g1, g2⟩, (by first | omega | (simp only; omega))⟩, rfl⟩ (by simp +contextual -dsimp only [↓SD, SU, simprocAttr, Int.natCast_add]) ?_⟩
     dsimp only
     rw [← hL', N5, ← hK, g1, g2, g3, hL1, Ki _ _ _ hPn]
     refine AF.2 ⟨hset v1 _ (fun k hk hkj => ?_) (CM hKn ho) BH, AF.2 ⟨CM hPK (Jh hH hPn q4), ?_, trivial⟩⟩
     ·exact CM (fun h => h.ne rfl) (Jh hH (fun q h1 h2 => hkj (h1.sib h2)) (q3 k hk))
     ·rw [BL hKm]; exact p1
  ·obtain rfl : j = ks.length := by omega
   rw [Adk] at *
   simp +contextual -dsimp (maxSteps := 2000000) only [↓SD, SU, simprocAttr, Nat.lt_irrefl, q1]
   refine Af.post (oh nm v0 (Tr.mk n (BG s a n 0 ks))) ?_
   simp +contextual -dsimp (maxSteps := 2000000) only [↓SD, SU, simprocAttr, AD, q1, false_and]
   exact ⟨hs0, v0, by rw [AD, hv1], rfl⟩
end Go.Proofs.YtppjinmlfcokaaaGreat
