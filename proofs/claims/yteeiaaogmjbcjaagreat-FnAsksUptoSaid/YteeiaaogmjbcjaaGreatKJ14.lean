/-
 A TREE LAID DOWN IN THE WALK's ORDER: flatPat, by its abstract text. Conditions: none.
-/
import Derived.Test.YteeiaaogmjbcjaaGreatKJ13
import Derived.Test.YteeiaaogmjbcjaaGreatKJ11
import Derived.Test.YteeiaaogmjbcjaaGreatProg
import Derived.Test.YteeiaaogmjbcjaaGreatKAvDraw
import Derived.Test.YteeiaaogmjbcjaaGreatKJ05
set_option linter.unusedVariables false
set_option linter.unusedSimpArgs false
set_option maxRecDepth 100000
namespace Go.Proofs.YteeiaaogmjbcjaaGreat
open Go.RowKit Go.Proofs.YteeiaaogmjbcjaaGreat.Av Go.Proofs.YteeiaaogmjbcjaaGreat.Ml
open Go.Proofs.YteeiaaogmjbcjaaGreat.Av.AVal (av)

def grow (G : List AV) (x : AV) (hp : Hp) : Prop := (G = [] ∧ x = .Aq ∧ hp = []) ∨ ∃ v, x = .row 29 v G.length ∧ hp = [(29, ⟨v, false, 36, 4, G⟩)]
def HZ (G : List AV) (e : Px) (r : AV) (hp' : Hp) : Prop := ∃ v, r = .tup [.row 29 v (G.length + pxN e), .int .i64 G.length] ∧ hp' = [(29, ⟨v, false, 36, 4, G ++ (AL G.length e).map av⟩)]
structure FlS where
 j : Nat
 v : Nat
 u : Nat
theorem Wb : ∀ (e : Px) (G : List AV) (x : AV) (hp : Hp), grow G x hp → G.length + pxN e ≤ 1048576 → AO Tryz.prog 65 [x, av e] hp (HZ G e) := by
 refine Px.ind fun n ks ih G x hp hx hb => ?_
 have ec : pxN (.mk n ks) = 1 + AZ ks := by rw [pxN]
 rw [ec] at hb
 have hkl := Hv ks
 refine FV.H rfl ?_
 rcases hx with ⟨rfl, rfl, rfl⟩ | ⟨v, rfl, rfl⟩
 ·simp +contextual -dsimp only [↓SD, SU, simprocAttr, -Nat.reduceMul, FV, El, Aa]
  refine ⟨⟨by omega, by unfold maxLen; omega⟩, fun v1 v2 => ?_⟩
  obtain ⟨G, hG0⟩ : ∃ G : List AV, G = [] := ⟨[], rfl⟩
  have key : HZ [] (.mk n ks) = HZ G (.mk n ks) := by rw [hG0]
  rw [key]
  have hG1 : G.length = 0 := by rw [hG0]; rfl
  have hb2 : G.length + (1 + AZ ks) ≤ 1048576 := by rw [hG1]; simpa using hb
  clear hb key
  have hb := hb2
  clear hb2
  refine AF (X := FlS) (fun q => ⟨[(0, .row 29 q.v (G.length + 1 + AZ (ks.take q.j))), (6, .int .i64 G.length), (7, .row 30 q.u q.j), (34, .sl (ks.map av)), (35, .int .i64 ks.length), (36, .int .i64 q.j)], [(29, ⟨q.v, false, 36, 4, G ++ [.agg [.int .i64 n.kind, .int .i64 n.n, .str n.s, .Aq]] ++ (AJ (G.length + 1) (ks.take q.j)).map av⟩), (30, ⟨q.u, false, 3, 1, (AM (G.length + 1) (ks.take q.j)).map av⟩)]⟩) (fun q => q.j ≤ ks.length) (fun q => ks.length - q.j) ⟨0, v1, v2⟩ (Nat.zero_le _) (by simp +contextual -dsimp only [↓SD, SU, simprocAttr, -Nat.reduceMul, List.take_zero, AZ, hG1]) (by simp +contextual -dsimp only [↓SD, SU, simprocAttr, -Nat.reduceMul, List.take_zero, AJ, AM, List.map_nil, List.append_nil, hG0]) ?_
  rintro ⟨j, a, b⟩ hj
  dsimp only at hj ⊢
  by_cases hlt : j < ks.length
  ·have e1 := getD_map av ks j .top hlt
   have b2 := Ep ks j hlt
   have ht : ks.take (j + 1) = ks.take j ++ [ks[j]] := List.take_succ_eq_append_getElem hlt
   have hpx : G.length + 1 + AZ (ks.take (j + 1)) = G.length + 1 + AZ (ks.take j) + pxN ks[j] := by rw [ht, Hw]; omega
   have hfl := Dn (G.length + 1) (ks.take j)
   have hkp := Dq (G.length + 1) (ks.take j)
   rw [List.length_take, Nat.min_eq_left hj] at hkp
   have hL : (G ++ [AV.agg [.int .i64 n.kind, .int .i64 n.n, .str n.s, .Aq]] ++ (AJ (G.length + 1) (ks.take j)).map av).length = G.length + 1 + AZ (ks.take j) := by simp [hfl]; omega
   have C := ih ks[j] (List.getElem_mem hlt) (G ++ [.agg [.int .i64 n.kind, .int .i64 n.n, .str n.s, .Aq]] ++ (AJ (G.length + 1) (ks.take j)).map av) (.row 29 a (G.length + 1 + AZ (ks.take j))) [(29, ⟨a, false, 36, 4, G ++ [.agg [.int .i64 n.kind, .int .i64 n.n, .str n.s, .Aq]] ++ (AJ (G.length + 1) (ks.take j)).map av⟩)] (.inr ⟨a, by rw [hL], rfl⟩) (by rw [hL]; omega)
   unfold HZ at C
   rw [hL] at C
   have hfs : G ++ [AV.agg [.int .i64 n.kind, .int .i64 n.n, .str n.s, .Aq]] ++ (AJ (G.length + 1) (ks.take (j + 1))).map av = G ++ [AV.agg [.int .i64 n.kind, .int .i64 n.n, .str n.s, .Aq]] ++ (AJ (G.length + 1) (ks.take j)).map av ++ (AL (G.length + 1 + AZ (ks.take j)) ks[j]).map av := by rw [ht, FJ, List.map_append]; simp only [List.append_assoc]
   have hks : (AM (G.length + 1) (ks.take (j + 1))).map (av : Int → AV) = (AM (G.length + 1) (ks.take j)).map av ++ [.int .i64 ((G.length : Int) + 1 + (AZ (ks.take j) : Int))] := by rw [ht, FH, List.map_append]; rfl
   have hkm : ((AM (G.length + 1) (ks.take j)).map (av : Int → AV)).length = j := by rw [List.length_map, hkp]
   have hkt : List.take j ((AM (G.length + 1) (ks.take j)).map (av : Int → AV)) = (AM (G.length + 1) (ks.take j)).map av := List.take_of_length_le (by rw [hkm]; exact Nat.le_refl _)
   generalize (AM (G.length + 1) (ks.take j)).map (av : Int → AV) = KP at *
   generalize hQ : G ++ [AV.agg [.int .i64 n.kind, .int .i64 n.n, .str n.s, .Aq]] ++ (AJ (G.length + 1) (ks.take j)).map av = Q at *
   generalize (AL (G.length + 1 + AZ (ks.take j)) ks[j]).map av = FX at *
   generalize hN : AZ (ks.take j) = N at *
   simp +contextual -dsimp only [↓SD, SU, simprocAttr, -Nat.reduceMul, hlt, Aa, e1, C7, E0, D6, Cg, E1, GZ]
   refine Ac [29] C (by simp +contextual -dsimp only [↓SD, SU, simprocAttr, -Nat.reduceMul, Cg, false_and]) ?_
   rintro r hp' ⟨w, rfl, rfl⟩
   simp +contextual -dsimp only [↓SD, SU, simprocAttr, -Nat.reduceMul, hkm, hkt, Int.natCast_add]
   exact ⟨⟨by omega, by unfold maxLen; omega⟩, fun v => ⟨by omega, Ah.le ⟨⟨j + 1, w, v⟩, ⟨hlt, (by first | omega | (simp only; omega))⟩, rfl⟩ (by simp +contextual -dsimp only [↓SD, SU, simprocAttr, -Nat.reduceMul, Int.natCast_add, hpx]) (by simp +contextual -dsimp only [↓SD, SU, simprocAttr, -Nat.reduceMul, hfs, hks])⟩⟩
  ·obtain rfl : j = ks.length := by omega
   rw [List.take_length]
   have hkp := Dq (G.length + 1) ks
   have hkt : List.take ks.length ((AM (G.length + 1) ks).map (av : Int → AV)) = (AM (G.length + 1) ks).map av := List.take_of_length_le (by simp [hkp])
   have hkn : ∀ hp, ((AM (G.length + 1) ks).map (av : Int → AV)).map (AV.pur hp) = (AM (G.length + 1) ks).map av := fun hp => Ab _ hp
   have hkm : ((AM (G.length + 1) ks).map (av : Int → AV)).length = ks.length := by simp [hkp]
   have hfl := Dn (G.length + 1) ks
   have hL : (G ++ [AV.agg [.int .i64 n.kind, .int .i64 n.n, .str n.s, .Aq]] ++ (AJ (G.length + 1) ks).map av).length = G.length + 1 + AZ ks := by simp [hfl]; omega
   have hG : (G ++ [AV.agg [.int .i64 n.kind, .int .i64 n.n, .str n.s, .Aq]] ++ (AJ (G.length + 1) ks).map av).getD G.length .top = .agg [.int .i64 n.kind, .int .i64 n.n, .str n.s, .Aq] := by simp [List.getD_eq_getElem?_getD]
   have hS : (G ++ [AV.agg [.int .i64 n.kind, .int .i64 n.n, .str n.s, .Aq]] ++ (AJ (G.length + 1) ks).map av).set G.length (.agg [.int .i64 n.kind, .int .i64 n.n, .str n.s, .sl ((AM (G.length + 1) ks).map av)]) = G ++ (AL G.length (.mk n ks)).map av := by
    rw [AL, List.map_cons, A8]
    simp [List.set_append]
   have hlt2 : (G.length : Int) < (G.length : Int) + 1 + (AZ ks : Int) := by omega
   have hlt3 : G.length < G.length + 1 + AZ ks := by omega
   generalize (AM (G.length + 1) ks).map (av : Int → AV) = KP at *
   generalize hQ : G ++ [AV.agg [.int .i64 n.kind, .int .i64 n.n, .str n.s, .Aq]] ++ (AJ (G.length + 1) ks).map av = Q at *
   simp +contextual -dsimp only [↓SD, SU, simprocAttr, -Nat.reduceMul, Nat.lt_irrefl]
   refine BO (Ah.frz 30 (Ah.pur 7 (Ah.here ?_)))
   simp +contextual -dsimp only [↓SD, SU, simprocAttr, -Nat.reduceMul, hkm, hkt, hkn, hL, hG, hS, hlt2, hlt3, Int.natCast_add, Nat.le_refl]
   refine Ah.post [(29, ⟨a, false, 36, 4, G ++ (AL G.length (.mk n ks)).map av⟩)] ?_
   simp +contextual -dsimp only [↓SD, SU, simprocAttr, -Nat.reduceMul, false_and]
   exact ⟨a, by rw [ec, Nat.add_assoc], rfl⟩
 ·have t0 : List.take G.length G = G := List.take_length
  simp +contextual -dsimp only [↓SD, SU, simprocAttr, -Nat.reduceMul, FV, El, Aa, t0]
  refine ⟨⟨by omega, by unfold maxLen; omega⟩, fun v1 v2 => ?_⟩
  refine AF (X := FlS) (fun q => ⟨[(0, .row 29 q.v (G.length + 1 + AZ (ks.take q.j))), (6, .int .i64 G.length), (7, .row 30 q.u q.j), (34, .sl (ks.map av)), (35, .int .i64 ks.length), (36, .int .i64 q.j)], [(29, ⟨q.v, false, 36, 4, G ++ [.agg [.int .i64 n.kind, .int .i64 n.n, .str n.s, .Aq]] ++ (AJ (G.length + 1) (ks.take q.j)).map av⟩), (30, ⟨q.u, false, 3, 1, (AM (G.length + 1) (ks.take q.j)).map av⟩)]⟩) (fun q => q.j ≤ ks.length) (fun q => ks.length - q.j) ⟨0, v1, v2⟩ (Nat.zero_le _) (by simp +contextual -dsimp only [↓SD, SU, simprocAttr, -Nat.reduceMul, List.take_zero, AZ]) (by simp +contextual -dsimp only [↓SD, SU, simprocAttr, -Nat.reduceMul, List.take_zero, AJ, AM, List.map_nil, List.append_nil]) ?_
  rintro ⟨j, a, b⟩ hj
  dsimp only at hj ⊢
  by_cases hlt : j < ks.length
  ·have e1 := getD_map av ks j .top hlt
   have b2 := Ep ks j hlt
   have ht : ks.take (j + 1) = ks.take j ++ [ks[j]] := List.take_succ_eq_append_getElem hlt
   have hpx : G.length + 1 + AZ (ks.take (j + 1)) = G.length + 1 + AZ (ks.take j) + pxN ks[j] := by rw [ht, Hw]; omega
   have hfl := Dn (G.length + 1) (ks.take j)
   have hkp := Dq (G.length + 1) (ks.take j)
   rw [List.length_take, Nat.min_eq_left hj] at hkp
   have hL : (G ++ [AV.agg [.int .i64 n.kind, .int .i64 n.n, .str n.s, .Aq]] ++ (AJ (G.length + 1) (ks.take j)).map av).length = G.length + 1 + AZ (ks.take j) := by simp [hfl]; omega
   have C := ih ks[j] (List.getElem_mem hlt) (G ++ [.agg [.int .i64 n.kind, .int .i64 n.n, .str n.s, .Aq]] ++ (AJ (G.length + 1) (ks.take j)).map av) (.row 29 a (G.length + 1 + AZ (ks.take j))) [(29, ⟨a, false, 36, 4, G ++ [.agg [.int .i64 n.kind, .int .i64 n.n, .str n.s, .Aq]] ++ (AJ (G.length + 1) (ks.take j)).map av⟩)] (.inr ⟨a, by rw [hL], rfl⟩) (by rw [hL]; omega)
   unfold HZ at C
   rw [hL] at C
   have hfs : G ++ [AV.agg [.int .i64 n.kind, .int .i64 n.n, .str n.s, .Aq]] ++ (AJ (G.length + 1) (ks.take (j + 1))).map av = G ++ [AV.agg [.int .i64 n.kind, .int .i64 n.n, .str n.s, .Aq]] ++ (AJ (G.length + 1) (ks.take j)).map av ++ (AL (G.length + 1 + AZ (ks.take j)) ks[j]).map av := by rw [ht, FJ, List.map_append]; simp only [List.append_assoc]
   have hks : (AM (G.length + 1) (ks.take (j + 1))).map (av : Int → AV) = (AM (G.length + 1) (ks.take j)).map av ++ [.int .i64 ((G.length : Int) + 1 + (AZ (ks.take j) : Int))] := by rw [ht, FH, List.map_append]; rfl
   have hkm : ((AM (G.length + 1) (ks.take j)).map (av : Int → AV)).length = j := by rw [List.length_map, hkp]
   have hkt : List.take j ((AM (G.length + 1) (ks.take j)).map (av : Int → AV)) = (AM (G.length + 1) (ks.take j)).map av := List.take_of_length_le (by rw [hkm]; exact Nat.le_refl _)
   generalize (AM (G.length + 1) (ks.take j)).map (av : Int → AV) = KP at *
   generalize hQ : G ++ [AV.agg [.int .i64 n.kind, .int .i64 n.n, .str n.s, .Aq]] ++ (AJ (G.length + 1) (ks.take j)).map av = Q at *
   generalize (AL (G.length + 1 + AZ (ks.take j)) ks[j]).map av = FX at *
   generalize hN : AZ (ks.take j) = N at *
   simp +contextual -dsimp only [↓SD, SU, simprocAttr, -Nat.reduceMul, hlt, Aa, e1, C7, E0, D6, Cg, E1, GZ]
   refine Ac [29] C (by simp +contextual -dsimp only [↓SD, SU, simprocAttr, -Nat.reduceMul, Cg, false_and]) ?_
   rintro r hp' ⟨w, rfl, rfl⟩
   simp +contextual -dsimp only [↓SD, SU, simprocAttr, -Nat.reduceMul, hkm, hkt, Int.natCast_add]
   exact ⟨⟨by omega, by unfold maxLen; omega⟩, fun v => ⟨by omega, Ah.le ⟨⟨j + 1, w, v⟩, ⟨hlt, (by first | omega | (simp only; omega))⟩, rfl⟩ (by simp +contextual -dsimp only [↓SD, SU, simprocAttr, -Nat.reduceMul, Int.natCast_add, hpx]) (by simp +contextual -dsimp only [↓SD, SU, simprocAttr, -Nat.reduceMul, hfs, hks])⟩⟩
  ·obtain rfl : j = ks.length := by omega
   rw [List.take_length]
   have hkp := Dq (G.length + 1) ks
   have hkt : List.take ks.length ((AM (G.length + 1) ks).map (av : Int → AV)) = (AM (G.length + 1) ks).map av := List.take_of_length_le (by simp [hkp])
   have hkn : ∀ hp, ((AM (G.length + 1) ks).map (av : Int → AV)).map (AV.pur hp) = (AM (G.length + 1) ks).map av := fun hp => Ab _ hp
   have hkm : ((AM (G.length + 1) ks).map (av : Int → AV)).length = ks.length := by simp [hkp]
   have hfl := Dn (G.length + 1) ks
   have hL : (G ++ [AV.agg [.int .i64 n.kind, .int .i64 n.n, .str n.s, .Aq]] ++ (AJ (G.length + 1) ks).map av).length = G.length + 1 + AZ ks := by simp [hfl]; omega
   have hG : (G ++ [AV.agg [.int .i64 n.kind, .int .i64 n.n, .str n.s, .Aq]] ++ (AJ (G.length + 1) ks).map av).getD G.length .top = .agg [.int .i64 n.kind, .int .i64 n.n, .str n.s, .Aq] := by simp [List.getD_eq_getElem?_getD]
   have hS : (G ++ [AV.agg [.int .i64 n.kind, .int .i64 n.n, .str n.s, .Aq]] ++ (AJ (G.length + 1) ks).map av).set G.length (.agg [.int .i64 n.kind, .int .i64 n.n, .str n.s, .sl ((AM (G.length + 1) ks).map av)]) = G ++ (AL G.length (.mk n ks)).map av := by
    rw [AL, List.map_cons, A8]
    simp [List.set_append]
   have hlt2 : (G.length : Int) < (G.length : Int) + 1 + (AZ ks : Int) := by omega
   have hlt3 : G.length < G.length + 1 + AZ ks := by omega
   generalize (AM (G.length + 1) ks).map (av : Int → AV) = KP at *
   generalize hQ : G ++ [AV.agg [.int .i64 n.kind, .int .i64 n.n, .str n.s, .Aq]] ++ (AJ (G.length + 1) ks).map av = Q at *
   simp +contextual -dsimp only [↓SD, SU, simprocAttr, -Nat.reduceMul, Nat.lt_irrefl]
   refine BO (Ah.frz 30 (Ah.pur 7 (Ah.here ?_)))
   simp +contextual -dsimp only [↓SD, SU, simprocAttr, -Nat.reduceMul, hkm, hkt, hkn, hL, hG, hS, hlt2, hlt3, Int.natCast_add, Nat.le_refl]
   refine Ah.post [(29, ⟨a, false, 36, 4, G ++ (AL G.length (.mk n ks)).map av⟩)] ?_
   simp +contextual -dsimp only [↓SD, SU, simprocAttr, -Nat.reduceMul, false_and]
   exact ⟨a, by rw [ec, Nat.add_assoc], rfl⟩
end Go.Proofs.YteeiaaogmjbcjaaGreat
set_option linter.unusedVariables false
set_option linter.unusedSimpArgs false
set_option maxRecDepth 100000
namespace Go.Proofs.YteeiaaogmjbcjaaGreat
open Go.RowKit Go.Proofs.YteeiaaogmjbcjaaGreat.Av Go.Proofs.YteeiaaogmjbcjaaGreat.Ml
open Go.Proofs.YteeiaaogmjbcjaaGreat.Av.AVal (av)

def BI (e : Px) : List AY := (AL 0 e).map fun p => ⟨p.kind, p.n, p.s, p.kids⟩
theorem J6 (e : Px) : (BI e).length = pxN e := by simp [BI, Cc]
theorem OK (e : Px) : (AL 0 e).map (av : AU → AV) = (BI e).map av := by
 unfold BI
 rw [List.map_map]
 refine List.map_congr_left fun p _ => ?_
 show av p = av (⟨p.kind, p.n, p.s, p.kids⟩ : AY)
 rw [A8, Bm]
def Y8 (k u : Nat) : AV := if k = 0 then .Aq else .row 24 u k
def Y7 (k u : Nat) (es : List AV) : Hp := if k = 0 then [] else [(24, ⟨u, false, 116, 4, es⟩)]
theorem ZF (e : Px) (hb : pxN e ≤ 1048576) : AG Tryz.prog 33 [av e] (av (⟨BI e⟩ : Data)) := by
 refine JG.F rfl (by simp; exact AVal.clean e) (AVal.clean _) ?_
 have C := Wb e [] .Aq [] (.inl ⟨rfl, rfl, rfl⟩) (by simpa using hb)
 unfold HZ at C
 have hp := K7 e
 have hl := J6 e
 simp only [List.length_nil, List.nil_append, Nat.zero_add, OK] at C
 rw [Ip]
 rw [← hl] at C
 have hb2 : (BI e).length ≤ 1048576 := by rw [hl]; exact hb
 have hLn : 1 ≤ (BI e).length := by rw [hl]; exact hp
 clear hl hp hb
 generalize BI e = L at *
 simp +contextual -dsimp only [↓SD, SU, simprocAttr, -Nat.reduceMul, JG, C7, E0, D6, Cg, E1, GZ]
 intro u2
 refine Ac [] C (by simp +contextual -dsimp only [↓SD, SU, simprocAttr, -Nat.reduceMul, Cg]) ?_
 rintro r hp' ⟨v, rfl, rfl⟩
 simp +contextual -dsimp only [↓SD, SU, simprocAttr, -Nat.reduceMul]
 intro u5
 refine AF (X := Nat × Nat) (fun q => ⟨[(2, .ptr 2 u2 0 0), (5, .ptr 5 u5 0 0), (14, .row 29 v L.length), (15, .int .i64 L.length), (16, .int .i64 q.1)], (2, ⟨u2, false, 28, 1, [.agg [.Aq]]⟩) :: (5, ⟨u5, false, 28, 1, [.agg [Y8 q.1 q.2]]⟩) :: (29, ⟨v, false, 36, 4, L.map av⟩) :: Y7 q.1 q.2 ((L.take q.1).map av)⟩) (fun q => q.1 ≤ L.length) (fun q => L.length - q.1) (0, 0) (Nat.zero_le _) (by simp +contextual -dsimp only [↓SD, SU, simprocAttr, -Nat.reduceMul]) (by simp +contextual -dsimp only [↓SD, SU, simprocAttr, -Nat.reduceMul, Y8, Y7]) ?_
 rintro ⟨j, u⟩ hj
 dsimp only at hj ⊢
 by_cases hlt : j < L.length
 ·have e1 := getD_map av L j .top hlt
  have hk1 : ¬ j + 1 = 0 := by omega
  have rC1 : ∀ u, Y8 (j + 1) u = .row 24 u (j + 1) := fun u => if_neg hk1
  have rD1 : ∀ u es, Y7 (j + 1) u es = [(24, ⟨u, false, 116, 4, es⟩)] := fun u es => if_neg hk1
  have ht : (L.take (j + 1)).map (av : AY → AV) = (L.take j).map av ++ [av L[j]] := by rw [List.take_succ_eq_append_getElem hlt, List.map_append]; rfl
  have htl : ((L.take j).map (av : AY → AV)).length = j := by simp; omega
  have htt : List.take j ((L.take j).map (av : AY → AV)) = (L.take j).map av := List.take_of_length_le (by rw [htl]; exact Nat.le_refl _)
  generalize L[j] = a at *
  rw [Bm] at ht
  by_cases h0 : j = 0
  ·subst h0
   have c0 : ∀ u, Y8 0 u = .Aq := fun _ => rfl
   have d0 : ∀ u es, Y7 0 u es = [] := fun _ _ => rfl
   have hlt' : (0 : Int) < L.length := by omega
   rw [c0, d0]
   simp +contextual -dsimp only [↓SD, SU, simprocAttr, -Nat.reduceMul, hlt, hlt', Aa, e1, Bm]
   intro u7
   refine ⟨⟨by omega, by unfold maxLen; omega⟩, fun w => ?_⟩
   simp only [List.take_zero, List.map_nil, List.nil_append, Nat.zero_add] at ht rC1 rD1
   exact Ah.le ⟨(1, w), ⟨hlt, (by first | omega | (simp only; omega))⟩, rfl⟩ (by simp +contextual -dsimp only [↓SD, SU, simprocAttr, -Nat.reduceMul]) (by simp +contextual -dsimp only [↓SD, SU, simprocAttr, -Nat.reduceMul, rC1, rD1, ht])
  ·have rC : ∀ u, Y8 j u = .row 24 u j := fun u => if_neg h0
   have rD : ∀ u es, Y7 j u es = [(24, ⟨u, false, 116, 4, es⟩)] := fun u es => if_neg h0
   rw [rC, rD]
   generalize (L.take j).map (av : AY → AV) = G at *
   simp +contextual -dsimp only [↓SD, SU, simprocAttr, -Nat.reduceMul, hlt, Aa, e1, Bm, htl, htt]
   intro u7
   refine ⟨⟨by omega, by unfold maxLen; omega⟩, fun w => ⟨by omega, ?_⟩⟩
   exact Ah.le ⟨(j + 1, w), ⟨hlt, (by first | omega | (simp only; omega))⟩, rfl⟩ (by simp +contextual -dsimp only [↓SD, SU, simprocAttr, -Nat.reduceMul, Int.natCast_add]) (by simp +contextual -dsimp only [↓SD, SU, simprocAttr, -Nat.reduceMul, rC1, rD1, ht])
 ·obtain rfl : j = L.length := by omega
  have h0 : ¬ L.length = 0 := by omega
  have rC : ∀ u, Y8 L.length u = .row 24 u L.length := fun u => if_neg h0
  have rD : ∀ u es, Y7 L.length u es = [(24, ⟨u, false, 116, 4, es⟩)] := fun u es => if_neg h0
  have t0 : List.take L.length (L.map (av : AY → AV)) = L.map av := List.take_of_length_le (by simp)
  rw [rC, rD, List.take_length]
  simp +contextual -dsimp only [↓SD, SU, simprocAttr, -Nat.reduceMul, Nat.lt_irrefl, Aa, Ab, t0, Nat.le_refl]
  trace_state
end Go.Proofs.YteeiaaogmjbcjaaGreat
set_option linter.unusedVariables false
set_option maxRecDepth 100000
namespace Go.Proofs.YteeiaaogmjbcjaaGreat
open Go.Proofs.YteeiaaogmjbcjaaGreat.Av

theorem Ik : Tryz.prog.follows .mixedOrders = true := by kernel_rfl

def EM : Ir Tryz.prog 22 [(17, 7777), (26, 7777), (32, 7777), (42, 7777), (9, 7777)] [9999] 2 := ⟨_, _, Tryz.func22, Ik, by kernel_rfl, Ay [10007] Tryz.progTables (by conv => lhs; cbv) (by kernel_rfl)⟩
def Gu : Ir Tryz.prog 23 [(15, 7777), (51, 7777), (65, 7777)] [9999] 3 := ⟨_, _, Tryz.func23, Ik, by kernel_rfl, Ay [] Tryz.progTables (by conv => lhs; cbv) (by kernel_rfl)⟩
def Gv : Ir Tryz.prog 27 [(13,13),(32,32), (40, 7777)] [9999, 10] 2 := ⟨_, _, Tryz.func27, Ik, by kernel_rfl, Ay [] Tryz.progTables (by conv => lhs; cbv) (by kernel_rfl)⟩
end Go.Proofs.YteeiaaogmjbcjaaGreat
set_option linter.unusedVariables false
namespace Go.Proofs.YteeiaaogmjbcjaaGreat
open Go.RowKit Go.Proofs.YteeiaaogmjbcjaaGreat.Av
open Go.Proofs.YteeiaaogmjbcjaaGreat.Av.AVal (av)

theorem Ah.Acy {fr : List (Nat × AV)} {T : St → Prop} : ∀ (ks : List Nat) {hp : Hp}, Ah ⟨fr, Cr ks hp⟩ T → Ah ⟨fr, hp⟩ T
 | [], _, h => h
 | k :: r, _, h => Ah.frz k (Ah.Acy r h)
end Go.Proofs.YteeiaaogmjbcjaaGreat
