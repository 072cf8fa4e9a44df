/-
 TREES LAID DOWN AND TYPES COPIED, by the reference's abstract texts: l03Lay, l15Types. Conditions: none.
-/
import Derived.Test.YtppjinmlfcokaaaGreatVJ13
import Derived.Test.YtppjinmlfcokaaaGreatVJ41
set_option linter.unusedVariables false
set_option linter.unusedSimpArgs false
set_option maxRecDepth 100000
namespace Go.Proofs.YtppjinmlfcokaaaGreat
open Go.RowKit Go.Proofs.YtppjinmlfcokaaaGreat.Av Go.Proofs.YtppjinmlfcokaaaGreat.Ml
open Go.Proofs.YtppjinmlfcokaaaGreat.Av.AVal (av)

def Afg (G : List AV) (x : AV) (hp : Hp) : Prop := (G = [] ∧ x = .An ∧ hp = []) ∨ ∃ v, x = .row 90 v G.length ∧ hp = [(90, ⟨v, false, 49, 6, G⟩)]
structure LyS where
 j : Nat
 v : Nat
 u : Nat
set_option maxHeartbeats 4000000 in
theorem AbO : ∀ (t : Tr) (G : List AV) (x : AV) (hp : Hp), Afg G x hp → G.length + t.size ≤ 4294967296 → Bu Tryz.prog 41 [x, av (Sub.mk t)] hp (Afg (G ++ (Bz G.length t).map av)) := by
 refine Tr.ind fun n ks ih G x hp hx hb => ?_
 have ec : (Tr.mk n ks).size = Tr.AJ ks + 1 := by rw [Tr.size]
 rw [ec] at hb
 have hkl := Cy ks
 obtain ⟨Z, hZ⟩ : ∃ Z : AV, Z = .agg [.int .i64 0, .int .i64 0, .int .i64 0, .str (bs []), .An, .An] := ⟨_, rfl⟩
 have hml : ((ks.map Sub.mk).map (av : Sub → AV)).length = ks.length := by simp
 refine HL.H rfl ?_
 rcases hx with ⟨hG0, rfl, rfl⟩ | ⟨v, rfl, rfl⟩
 case' inl =>
  have hG1 : G.length = 0 := by rw [hG0]; rfl
  simp +contextual -dsimp (maxSteps := 2000000) only [↓SD, SU, simprocAttr, HL, Bb, Ab, hml]
  refine ⟨by unfold maxLen; omega, fun v1 v6 => ?_⟩
  refine DU (X := LyS) (fun x => ⟨[(0, .row 90 x.v (G.length + 1 + Tr.AJ (ks.take x.j))), (3, .obj [.int .i64 n.kind, .int .i64 n.pos, .int .i64 n.n, .str n.s, .sl (n.kids.map av), .sl (n.Ae.map av), .sl ((ks.map Sub.mk).map av)]), (5, .int .i64 G.length), (6, .ptr 6 v6 0 0), (19, .int .i64 ks.length), (20, .int .i64 x.j)], [(90, ⟨x.v, false, 49, 6, G ++ [Z] ++ (BD (G.length + 1) (ks.take x.j)).map av⟩), (6, ⟨v6, false, 49, 6, [.agg [.int .i64 n.kind, .int .i64 n.pos, .int .i64 n.n, .str n.s, .row 28 x.u x.j, .sl (n.Ae.map av)]]⟩), (28, ⟨x.u, false, 3, 1, (Dd (G.length + 1) (ks.take x.j)).map av⟩)]⟩) (fun x => x.j ≤ ks.length) (fun x => ks.length - x.j) ?_ ?_
  ·refine Af.FC 6 0 4 28 3 1 rfl rfl Nat.zero_lt_one rfl (by decide) fun z => ?_
   exact Af.le ⟨⟨0, v1, z⟩, Nat.zero_le _, rfl⟩ (by simp +contextual -dsimp only [↓SD, SU, simprocAttr, List.take_zero, Tr.AJ, hG1]) (by simp +contextual -dsimp only [↓SD, SU, simprocAttr, List.take_zero, BD, Dd, List.map_nil, List.append_nil, hG0, hZ])
 case' inr =>
  have t0 : List.take G.length G = G := List.take_length
  simp +contextual -dsimp (maxSteps := 2000000) only [↓SD, SU, simprocAttr, HL, Bb, Ab, t0, hml]
  refine ⟨⟨by omega, by unfold maxLen; omega⟩, fun v1 v6 => ?_⟩
  refine DU (X := LyS) (fun x => ⟨[(0, .row 90 x.v (G.length + 1 + Tr.AJ (ks.take x.j))), (3, .obj [.int .i64 n.kind, .int .i64 n.pos, .int .i64 n.n, .str n.s, .sl (n.kids.map av), .sl (n.Ae.map av), .sl ((ks.map Sub.mk).map av)]), (5, .int .i64 G.length), (6, .ptr 6 v6 0 0), (19, .int .i64 ks.length), (20, .int .i64 x.j)], [(90, ⟨x.v, false, 49, 6, G ++ [Z] ++ (BD (G.length + 1) (ks.take x.j)).map av⟩), (6, ⟨v6, false, 49, 6, [.agg [.int .i64 n.kind, .int .i64 n.pos, .int .i64 n.n, .str n.s, .row 28 x.u x.j, .sl (n.Ae.map av)]]⟩), (28, ⟨x.u, false, 3, 1, (Dd (G.length + 1) (ks.take x.j)).map av⟩)]⟩) (fun x => x.j ≤ ks.length) (fun x => ks.length - x.j) ?_ ?_
  ·refine Af.FC 6 0 4 28 3 1 rfl rfl Nat.zero_lt_one rfl (by decide) fun z => ?_
   exact Af.le ⟨⟨0, v1, z⟩, Nat.zero_le _, rfl⟩ (by simp +contextual -dsimp only [↓SD, SU, simprocAttr, List.take_zero, Tr.AJ]) (by simp +contextual -dsimp only [↓SD, SU, simprocAttr, List.take_zero, BD, Dd, List.map_nil, List.append_nil, hZ])
 all_goals
  rintro ⟨j, a, b⟩ hj
  dsimp only at hj ⊢
  by_cases hlt : j < ks.length
  ·have hlt3 : j < (ks.map Sub.mk).length := by rw [List.length_map]; exact hlt
   have e1 := getD_map av (ks.map Sub.mk) j .top hlt3
   rw [List.getElem_map] at e1
   have b2 := Jf ks j hlt
   have ht : ks.take (j + 1) = ks.take j ++ [ks[j]] := List.take_succ_eq_append_getElem hlt
   have hpx : G.length + 1 + Tr.AJ (ks.take (j + 1)) = G.length + 1 + Tr.AJ (ks.take j) + (ks[j]).size := by rw [ht, Nn]; omega
   have hfl := Jl (G.length + 1) (ks.take j)
   have hkp := ED (G.length + 1) (ks.take j)
   rw [List.length_take, Nat.min_eq_left hj] at hkp
   have hL : (G ++ [Z] ++ (BD (G.length + 1) (ks.take j)).map av).length = G.length + 1 + Tr.AJ (ks.take j) := by simp [hfl]; omega
   have C := ih ks[j] (List.getElem_mem hlt) (G ++ [Z] ++ (BD (G.length + 1) (ks.take j)).map av) (.row 90 a (G.length + 1 + Tr.AJ (ks.take j))) [(90, ⟨a, false, 49, 6, G ++ [Z] ++ (BD (G.length + 1) (ks.take j)).map av⟩)] (.inr ⟨a, by rw [hL], rfl⟩) (by rw [hL]; omega)
   rw [hL] at C
   have hsn : G ++ [Z] ++ (BD (G.length + 1) (ks.take (j + 1))).map av = G ++ [Z] ++ (BD (G.length + 1) (ks.take j)).map av ++ (Bz (G.length + 1 + Tr.AJ (ks.take j)) ks[j]).map av := by rw [ht, LM, List.map_append, List.append_assoc, List.append_assoc, List.append_assoc]
   have hks : (Dd (G.length + 1) (ks.take (j + 1))).map (av : Int → AV) = (Dd (G.length + 1) (ks.take j)).map av ++ [.int .i64 ((G.length : Int) + 1 + (Tr.AJ (ks.take j) : Int))] := by rw [ht, Nu, List.map_append]; rfl
   have hkm : ((Dd (G.length + 1) (ks.take j)).map (av : Int → AV)).length = j := by rw [List.length_map, hkp]
   have hkt : List.take j ((Dd (G.length + 1) (ks.take j)).map (av : Int → AV)) = (Dd (G.length + 1) (ks.take j)).map av := List.take_of_length_le (by rw [hkm]; exact Nat.le_refl _)
   have hYl := Dm ks[j] (G.length + 1 + Tr.AJ (ks.take j))
   generalize (Dd (G.length + 1) (ks.take j)).map (av : Int → AV) = KP at *
   generalize (Bz (G.length + 1 + Tr.AJ (ks.take j)) ks[j]) = Y at *
   generalize G ++ [Z] ++ (BD (G.length + 1) (ks.take j)).map av = Q at *
   generalize Tr.AJ (ks.take j) = N at *
   generalize ks[j] = k at *
   have hQY : (Q ++ Y.map av).length = G.length + 1 + N + k.size := by rw [List.length_append, List.length_map, hL, hYl]
   generalize Q ++ Y.map av = QY at *
   have hQYn : ¬ QY = [] := fun h => by rw [h] at hQY; simp only [List.length_nil] at hQY; omega
   simp +contextual -dsimp (maxSteps := 2000000) only [↓SD, SU, simprocAttr, hlt, hml, e1, Bh, Bl, Bi, AQ, BI, hkm, hkt, false_and]
   refine ⟨⟨by omega, by unfold maxLen; omega⟩, fun u' => ?_⟩
   refine Bx [90] C (by simp +contextual -dsimp only [↓SD, SU, simprocAttr]) ?_
   rintro r hp' (⟨h, _, _⟩ | ⟨w, rfl, rfl⟩)
   ·exact absurd h hQYn
   rw [hQY]
   simp +contextual -dsimp (maxSteps := 2000000) only [↓SD, SU, simprocAttr]
   exact ⟨by omega, Af.le ⟨⟨j + 1, w, u'⟩, ⟨hlt, (by first | omega | (simp only; omega))⟩, rfl⟩ (by simp +contextual -dsimp only [↓SD, SU, simprocAttr, Int.natCast_add, hpx]) (by simp +contextual -dsimp only [↓SD, SU, simprocAttr, hsn, hks, Int.natCast_add])⟩
  ·obtain rfl : j = ks.length := by omega
   rw [List.take_length]
   have hkp := ED (G.length + 1) ks
   have hfl := Jl (G.length + 1) ks
   have hfx : Bz G.length (.mk n ks) = { n with kids := Dd (G.length + 1) ks } :: BD (G.length + 1) ks := by rw [Bz]
   have hL : (G ++ [Z] ++ (BD (G.length + 1) ks).map av).length = G.length + 1 + Tr.AJ ks := by simp [hfl]; omega
   have hG : (G ++ [Z] ++ (BD (G.length + 1) ks).map av).getD G.length .top = Z := by simp [List.getD_eq_getElem?_getD]
   have hS : (G ++ [Z] ++ (BD (G.length + 1) ks).map av).set G.length (.agg [.int .i64 n.kind, .int .i64 n.pos, .int .i64 n.n, .str n.s, .sl ((Dd (G.length + 1) ks).map av), .sl (n.Ae.map av)]) = G ++ (Bz G.length (.mk n ks)).map av := by
    rw [hfx, List.map_cons, As]; simp [List.set_append]
   have hFl : (G ++ (Bz G.length (.mk n ks)).map (av : Node → AV)).length = G.length + 1 + Tr.AJ ks := by rw [List.length_append, List.length_map, Dm, ec]; omega
   have hFn : ¬ G ++ (Bz G.length (.mk n ks)).map (av : Node → AV) = [] := fun h => by rw [h] at hFl; simp only [List.length_nil] at hFl; omega
   generalize G ++ (Bz G.length (.mk n ks)).map av = F at *
   generalize G ++ [Z] ++ (BD (G.length + 1) ks).map av = Q at *
   rw [hZ] at hG
   have hkm : ((Dd (G.length + 1) ks).map (av : Int → AV)).length = ks.length := by rw [List.length_map, hkp]
   have hkt : List.take ks.length ((Dd (G.length + 1) ks).map (av : Int → AV)) = (Dd (G.length + 1) ks).map av := List.take_of_length_le (by rw [hkm]; exact Nat.le_refl _)
   have hkq : ∀ hp, ((Dd (G.length + 1) ks).map (av : Int → AV)).map (AV.pur hp) = (Dd (G.length + 1) ks).map av := fun hp => AB _ hp
   generalize (Dd (G.length + 1) ks).map (av : Int → AV) = KP at *
   have hlt2 : (G.length : Int) < (G.length : Int) + 1 + (Tr.AJ ks : Int) := by omega
   have hlt3 : G.length < G.length + 1 + Tr.AJ ks := by omega
   simp +contextual -dsimp (maxSteps := 2000000) only [↓SD, SU, simprocAttr, Nat.lt_irrefl]
   refine EK (Af.frz 28 (Af.XW 6 (b := ⟨v6, false, 49, 6, [.agg [.int .i64 n.kind, .int .i64 n.pos, .int .i64 n.n, .str n.s, .row 28 b ks.length, .sl (n.Ae.map av)]]⟩) rfl (Af.here ?_)))
   simp +contextual -dsimp (maxSteps := 2000000) only [↓SD, SU, simprocAttr, hkq, hkm, hkt, Nat.le_refl, hL, hG, hS, hlt2, hlt3]
   refine Af.post [(90, ⟨a, false, 49, 6, F⟩)] ?_
   simp +contextual -dsimp (maxSteps := 2000000) only [↓SD, SU, simprocAttr, false_and]
   exact .inr ⟨a, by rw [hFl], rfl⟩
theorem LN (t : Tr) (hb : t.size ≤ 4294967296) : Ah Tryz.prog 41 [.An, av (Sub.mk t)] (.sl ((Bz 0 t).map av)) := by
 have C := AbO t [] .An [] (.inl ⟨rfl, rfl, rfl⟩) (by simpa using hb)
 rw [List.nil_append, List.length_nil] at C
 refine YI C (by simp; exact ⟨Ad.An, AVal.clean _⟩) (Ak _) ?_
 rintro r hp' (⟨h, _, _⟩ | ⟨v, rfl, rfl⟩)
 ·have := Dm t 0
  have h2 := size_pos t
  rw [List.map_eq_nil_iff] at h
  rw [h] at this
  simp only [List.length_nil] at this
  omega
 ·have hm : ∀ hp, ((Bz 0 t).map (av : Node → AV)).map (AV.pur hp) = (Bz 0 t).map av := fun hp => AB _ hp
  generalize (Bz 0 t).map (av : Node → AV) = L at *
  simp [Jr, Ei, EX, I7, Gs, Ao, AV.pur, AV.B5, hm]
structure TwS where
 k : Nat
 u : Nat
structure TvS where
 j : Nat
 u : Nat
 w : Nat
set_option maxHeartbeats 4000000 in
theorem VS (l : List BF) (hx : Ac.bulk l ≤ 4294967296) : Ah Tryz.prog 65 [.sl (l.map av)] (.sl (l.map av)) := by
 have hl := Ai l
 refine IQ.F rfl (by simp; exact Ak l) (Ak l) ?_
 simp +contextual -dsimp (maxSteps := 2000000) only [↓SD, SU, simprocAttr, IQ, Ab]
 intro v9
 refine Am (X := TwS) (fun x => ⟨[(3, .row 9 x.u x.k), (10, .sl (l.map av)), (11, .int .i64 l.length), (12, .int .i64 x.k)], [(9, ⟨x.u, false, 72, 3, (l.take x.k).map av⟩)]⟩) (fun x => x.k ≤ l.length) (fun x => l.length - x.k) ⟨0, v9⟩ (Nat.zero_le _) (by simp +contextual -dsimp only [↓SD, SU, simprocAttr]) (by simp +contextual -dsimp only [↓SD, SU, simprocAttr, List.take_zero, List.map_nil]) ?_
 rintro ⟨k, u⟩ hk
 dsimp only at hk ⊢
 by_cases hlt : k < l.length
 ·have e := getD_map av l k .top hlt
  have hm := Au (List.getElem_mem hlt)
  have ht : (l.take (k + 1)).map (av : BF → AV) = (l.take k).map av ++ [av l[k]] := by rw [List.take_succ_eq_append_getElem hlt, List.map_append]; rfl
  have hkl : ((l.take k).map (av : BF → AV)).length = k := by simp; omega
  generalize (l.take k).map (av : BF → AV) = T at *
  have hTt : List.take k T = T := List.take_of_length_le (by omega)
  generalize l[k] = t at *
  have hbt : Ac.bulk t = Ac.bulk t.name + Ac.bulk t.params + Ac.bulk t.cons + 1 := rfl
  have hcl := Ai t.cons
  rw [BE] at e ht
  simp +contextual -dsimp (maxSteps := 2000000) only [↓SD, SU, simprocAttr, Ab, hlt, e]
  intro v5 v16
  refine Am (X := TvS) (fun x => ⟨[(3, .row 9 u k), (5, .ptr 5 v5 0 0), (6, .row 16 x.u x.j), (10, .sl (l.map av)), (11, .int .i64 l.length), (12, .int .i64 k), (18, .sl (t.cons.map av)), (19, .int .i64 t.cons.length), (20, .int .i64 x.j)], [(9, ⟨u, false, 72, 3, T⟩), (5, ⟨v5, false, 72, 3, [.agg [.str t.name, .int .i64 t.params, .sl (t.cons.map av)]]⟩), (16, ⟨x.u, false, 77, 3, (t.cons.take x.j).map av⟩)]⟩) (fun x => x.j ≤ t.cons.length) (fun x => t.cons.length - x.j) ⟨0, v16, 0⟩ (Nat.zero_le _) (by simp +contextual -dsimp only [↓SD, SU, simprocAttr]) (by simp +contextual -dsimp only [↓SD, SU, simprocAttr, List.take_zero, List.map_nil]) ?_
  rintro ⟨j, w, _⟩ hj
  dsimp only at hj ⊢
  by_cases hlj : j < t.cons.length
  ·have e2 := getD_map av t.cons j .top hlj
   have hmj := Au (List.getElem_mem hlj)
   have ht2 : (t.cons.take (j + 1)).map (av : Con → AV) = (t.cons.take j).map av ++ [av t.cons[j]] := by rw [List.take_succ_eq_append_getElem hlj, List.map_append]; rfl
   have hjl : ((t.cons.take j).map (av : Con → AV)).length = j := by simp; omega
   generalize (t.cons.take j).map (av : Con → AV) = V at *
   have hVt : List.take j V = V := List.take_of_length_le (by omega)
   generalize t.cons[j] = c at *
   have hb1 : Ac.bulk c = Ac.bulk c.name + Ac.bulk c.has + Ac.bulk c.arg + 1 := rfl
   have hb2 : Ac.bulk c.arg = Ac.bulk c.arg.items + 1 := rfl
   have hl1 := Ai c.arg.items
   have hic : ∀ x ∈ c.arg.items.map (av : AY → AV), x.cells.length = 3 := fun x hx => by obtain ⟨y, _, rfl⟩ := List.mem_map.1 hx; exact AVal.len y
   have him : ∀ hp, (c.arg.items.map (av : AY → AV)).map (AV.pur hp) = c.arg.items.map av := fun hp => AB _ hp
   have hit : List.take c.arg.items.length (c.arg.items.map (av : AY → AV)) = c.arg.items.map av := List.take_of_length_le (by simp)
   rw [Ck] at e2 ht2
   simp +contextual -dsimp (maxSteps := 2000000) only [↓SD, SU, simprocAttr, Ab, hlj, e2, him, hit, hjl, hVt]
   intro v8 v24
   refine ⟨⟨hic, by omega, by unfold maxLen; omega⟩, fun v28 => ?_⟩
   refine ⟨⟨by omega, by unfold maxLen; omega⟩, fun w' => ⟨by omega, Af.le ⟨⟨j + 1, w', 0⟩, ⟨hlj, (by first | omega | (simp only; omega))⟩, rfl⟩ (by simp +contextual -dsimp only [↓SD, SU, simprocAttr, Int.natCast_add]) (by simp +contextual -dsimp only [↓SD, SU, simprocAttr, ht2])⟩⟩
  ·obtain rfl : j = t.cons.length := by omega
   rw [List.take_length]
   have hcm : ∀ hp, (t.cons.map (av : Con → AV)).map (AV.pur hp) = t.cons.map av := fun hp => AB _ hp
   have hct : List.take t.cons.length (t.cons.map (av : Con → AV)) = t.cons.map av := List.take_of_length_le (by simp)
   simp +contextual -dsimp (maxSteps := 2000000) only [↓SD, SU, simprocAttr, Nat.lt_irrefl]
   refine EK (Af.frz 16 (Af.pur 6 (Af.here ?_)))
   simp +contextual -dsimp (maxSteps := 2000000) only [↓SD, SU, simprocAttr, hcm, hct, Ab, Nat.le_refl, hkl, hTt]
   refine ⟨⟨by omega, by unfold maxLen; omega⟩, fun u' => ⟨by omega, Af.le ⟨⟨k + 1, u'⟩, ⟨hlt, (by first | omega | (simp only; omega))⟩, rfl⟩ (by simp +contextual -dsimp only [↓SD, SU, simprocAttr, Int.natCast_add]) (by simp +contextual -dsimp only [↓SD, SU, simprocAttr, ht])⟩⟩
 ·obtain rfl : k = l.length := by omega
  rw [List.take_length]
  have hcm : ∀ hp, (l.map (av : BF → AV)).map (AV.pur hp) = l.map av := fun hp => AB _ hp
  have hct : List.take l.length (l.map (av : BF → AV)) = l.map av := List.take_of_length_le (by simp)
  simp +contextual -dsimp (maxSteps := 2000000) only [↓SD, SU, simprocAttr, Nat.lt_irrefl, hcm, hct, Ab, Nat.le_refl]
end Go.Proofs.YtppjinmlfcokaaaGreat
