/-
 THE TREE OF QUESTIONS, by the program's abstract text: plant. Conditions: none.
-/
import Derived.Test.YteeiaaogmjbcjaaGreatUJ42
import Derived.Test.YteeiaaogmjbcjaaGreatUJ41
import Derived.Test.YteeiaaogmjbcjaaGreatUJ33
set_option linter.unusedVariables false
set_option linter.unusedSimpArgs false
set_option maxRecDepth 100000
namespace Go.Proofs.YteeiaaogmjbcjaaGreat
open Go.RowKit Go.Proofs.YteeiaaogmjbcjaaGreat.Av Go.Proofs.YteeiaaogmjbcjaaGreat.Ml
open Go.Proofs.YteeiaaogmjbcjaaGreat.Av.AVal (av)
open OVal (ov oh on)

theorem SJ {s : St} {T : St → Prop} (t : St) (h1 : QE s.fr t.fr) (h2 : Bf s.hp t.hp) (h : Ai t T) : Ai s T := ⟨fun E nt a w hr => let ⟨u, hT, hu⟩ := (Ai.le (T := fun u => u = t) rfl h1 h2).run E nt a w hr; by subst hT; exact h.run E nt a w hu⟩
theorem YF (nm : Nat) (l : List Int) (hl : l.length ≤ 1048576) : AH Tryz.prog 75 [.sl (l.map av)] [] (Aat nm l) := by
 refine Gp (Q0 l hl) ?_
 rintro r hp' (⟨rfl, rfl, rfl⟩ | ⟨v, rfl, rfl⟩)
 ·refine Ai.new 0 nm 3 1 rfl fun u => ?_
  refine Ai.le (t := ⟨[(0, .row nm u 0)], [(nm, ⟨u, false, 3, 1, []⟩)]⟩) ⟨fun _ => u, rfl, rfl⟩ (by simp +contextual -dsimp only [↓SD, SU, simprocAttr, -Nat.reduceMul]) ⟨Cm, trivial⟩
 ·refine Ai.ren 0 5 nm (v := v) (n := l.length) rfl Cm rfl fun v' => ?_
  refine Ai.le (t := ⟨[(0, .row nm v' l.length)], [(nm, ⟨v', false, 3, 1, l.map av⟩)]⟩) ⟨fun _ => v', rfl, by rw [D5]⟩ (by simp +contextual -dsimp only [↓SD, SU, simprocAttr, -Nat.reduceMul]) ⟨Cm, trivial⟩
theorem Ol (l : List BI) (r : BI) (t : Tst) : BP (l ++ [r]) t = BP l t ++ (if r.AA.any (CR t) = true then [] else [⟨r.AA.filter fun x => !Cf x t, r.arm⟩]) := by
 unfold BP
 rw [List.filter_append, List.map_append]
 congr 1
 by_cases h : r.AA.any (CR t) = true
 ·rw [if_pos h, List.filter_cons_of_neg (by simp [h])]; rfl
 ·rw [if_neg h, List.filter_cons_of_pos (by simpa using h)]; rfl
theorem Sc (l : List BI) (r : BI) (t : Tst) : noR (l ++ [r]) t = noR l t ++ (if r.AA.any (CV t) = true then [] else [r]) := by
 unfold noR
 rw [List.filter_append]
 congr 1
 by_cases h : r.AA.any (CV t) = true
 ·rw [if_pos h, List.filter_cons_of_neg (by simp [h])]; rfl
 ·rw [if_neg h, List.filter_cons_of_pos (by simpa using h)]; rfl
theorem Q1 (l : List BI) (t : Tst) : (BP l t).length ≤ l.length := by unfold BP; rw [List.length_map]; exact List.length_filter_le _ _
theorem Wn (l : List BI) (t : Tst) : (noR l t).length ≤ l.length := List.length_filter_le _ _
def RowsIn (rows : List BI) : Prop := ∀ r ∈ rows, ∀ t ∈ r.AA, t.path.length ≤ 1000000
theorem RowsIn.yes {rows : List BI} (h : RowsIn rows) (t : Tst) : RowsIn (BP rows t) := fun r hr x hx => by
 unfold BP at hr
 obtain ⟨q, hq, rfl⟩ := List.mem_map.1 hr
 exact h q (List.mem_filter.1 hq).1 x (List.mem_filter.1 hx).1
theorem RowsIn.no {rows : List BI} (h : RowsIn rows) (t : Tst) : RowsIn (noR rows t) := fun r hr x hx => h r (List.mem_filter.1 hr).1 x hx
theorem YJ (rows : List BI) : rows.length ≤ wtR rows := by
 unfold wtR
 induction rows with
 | nil => simp
 | cons r rs ih => simp only [List.map_cons, List.sum_cons, List.length_cons]; omega
theorem YI {rows : List BI} {r : BI} (h : r ∈ rows) : r.AA.length ≤ wtR rows := by
 unfold wtR
 induction rows with
 | nil => cases h
 | cons q rs ih =>
  simp only [List.map_cons, List.sum_cons]
  rcases List.mem_cons.1 h with rfl | h
  ·omega
  ·have := ih h; omega
def Dt (k w : Nat) : AV := if k = 0 then .Au else .row 36 w k
def C6 (k w : Nat) (es : List AV) : Hp := if k = 0 then [] else [(36, ⟨w, false, 98, 8, es⟩)]
def C0 (v k w : Nat) : Nat × Box := (35, ⟨v, false, 88, 1, [.agg [Dt k w]]⟩)
def FF (nm v : Nat) (G : List AV) (P : List Ask) (r : AV) (hp' : Hp) : Prop := ∃ w vs, r = .int .i64 G.length ∧ hp' = C0 v (G.length + P.length) w :: (C6 (G.length + P.length) w (G ++ ovL nm vs G.length P) ++ ohL nm vs G.length P)
structure PlO where
 k : Nat
 a : Nat
 b : Nat
 w : Nat
structure PlJ where
 j : Nat
 c : Nat
theorem G0 {p : Tst → Bool} {l : List Tst} {j : Nat} (h : j < l.length) : (l.take (j + 1)).filter p = (l.take j).filter p ++ (if p l[j] = true then [l[j]] else []) := by
 rw [List.take_succ_eq_append_getElem h, List.filter_append]
 congr 1
 by_cases hp : p l[j] = true
 ·rw [if_pos hp, List.filter_cons_of_pos hp]; rfl
 ·rw [if_neg hp, List.filter_cons_of_neg (by simpa using hp)]; rfl
theorem GC {p : Tst → Bool} {l : List Tst} {j : Nat} (h : j < l.length) : (l.take (j + 1)).any p = ((l.take j).any p || p l[j]) := by
 rw [List.take_succ_eq_append_getElem h, List.any_append]; simp
theorem I6 (nm v : Nat) (G : List AV) (arm : Int) (w' : Nat) (s : St) (h4 : Ba s.fr 4 = .int .i64 G.length) (h35 : Aw s.hp 35 = some ⟨v, false, 88, 1, [.agg [.row 36 w' (G.length + 1)]]⟩)
  (h36 : Aw s.hp 36 = some ⟨w', false, 98, 8, G ++ [.agg [.int .i64 arm, .Au, .int .i64 0, .int .i64 0, .str (bs []), .bool false, .int .i64 0, .int .i64 0]]⟩) :
  Ai s (N2 [.t 4] (FF nm v G [⟨arm, [], 0, 0, bs [], false, 0, 0⟩])) := by
 have hg : (G ++ [AV.agg [.int .i64 arm, .Au, .int .i64 0, .int .i64 0, .str (bs []), .bool false, .int .i64 0, .int .i64 0]]).getD G.length .top = .agg [.int .i64 arm, .Au, .int .i64 0, .int .i64 0, .str (bs []), .bool false, .int .i64 0, .int .i64 0] := by simp [List.getD_eq_getElem?_getD]
 have hs : ∀ x, (G ++ [AV.agg [.int .i64 arm, .Au, .int .i64 0, .int .i64 0, .str (bs []), .bool false, .int .i64 0, .int .i64 0]]).set G.length x = G ++ [x] := fun x => by simp
 refine Ai.EB 36 G.length 1 (sub (sub nm G.length) 0) 3 1 h36 rfl (by simp) (by rw [hg]; rfl) (fun e => by have := BQ (sub nm G.length) 0; omega) fun u => ?_
 have hK : ∀ q, q < 10000 → (sub (sub nm G.length) 0 = q) = False := fun q hq => propext ⟨fun e => by have := BQ (sub nm G.length) 0; omega, False.elim⟩
 obtain ⟨E, hE⟩ : ∃ E : List AV, E = G ++ [.agg [.int .i64 arm, .row (sub (sub nm G.length) 0) u 0, .int .i64 0, .int .i64 0, .str (bs []), .bool false, .int .i64 0, .int .i64 0]] := ⟨_, rfl⟩
 have hEs : (G ++ [AV.agg [.int .i64 arm, .Au, .int .i64 0, .int .i64 0, .str (bs []), .bool false, .int .i64 0, .int .i64 0]]).set G.length (((G ++ [AV.agg [.int .i64 arm, .Au, .int .i64 0, .int .i64 0, .str (bs []), .bool false, .int .i64 0, .int .i64 0]]).getD G.length .top).EF 1 [.row (sub (sub nm G.length) 0) u 0]) = E := by rw [hg, hs, hE]; rfl
 dsimp only
 rw [hEs]
 obtain ⟨H, hH⟩ : ∃ H, H = ((sub (sub nm G.length) 0, (⟨u, false, 3, 1, []⟩ : Box)) :: (36, (⟨w', false, 98, 8, E⟩ : Box)) :: s.hp : Hp) := ⟨_, rfl⟩
 rw [← hH]
 rw [hE] at hH
 have g35 : Aw H 35 = some ⟨v, false, 88, 1, [.agg [.row 36 w' (G.length + 1)]]⟩ := by rw [hH, A4 (fun e => by have := BQ (sub nm G.length) 0; omega), A4 (by decide)]; exact h35
 have g36 : Aw H 36 = some ⟨w', false, 98, 8, G ++ [.agg [.int .i64 arm, .row (sub (sub nm G.length) 0) u 0, .int .i64 0, .int .i64 0, .str (bs []), .bool false, .int .i64 0, .int .i64 0]]⟩ := by
  rw [hH, A4 (fun e => by have := BQ (sub nm G.length) 0; omega)]; exact Cm
 have gK : Aw H (sub (sub nm G.length) 0) = some ⟨u, false, 3, 1, []⟩ := by rw [hH]; exact Cm
 refine Ai.post (C0 v (G.length + 1) w' :: (C6 (G.length + 1) w' (G ++ ovL nm (fun _ => u) G.length [(⟨arm, [], 0, 0, bs [], false, 0, 0⟩ : Ask)]) ++ ohL nm (fun _ => u) G.length [(⟨arm, [], 0, 0, bs [], false, 0, 0⟩ : Ask)])) ?_
 have e1 : Dt (G.length + 1) w' = .row 36 w' (G.length + 1) := if_neg (by omega)
 have e2 : ∀ es, C6 (G.length + 1) w' es = [(36, ⟨w', false, 98, 8, es⟩)] := fun _ => if_neg (by omega)
 have e3 : ovL nm (fun _ => u) G.length [(⟨arm, [], 0, 0, bs [], false, 0, 0⟩ : Ask)] = [.agg [.int .i64 arm, .row (sub (sub nm G.length) 0) u 0, .int .i64 0, .int .i64 0, .str (bs []), .bool false, .int .i64 0, .int .i64 0]] := rfl
 have e4 : ohL nm (fun _ => u) G.length [(⟨arm, [], 0, 0, bs [], false, 0, 0⟩ : Ask)] = [(sub (sub nm G.length) 0, ⟨u, false, 3, 1, []⟩)] := by
  simp only [ohL, Zu, D5, List.map_nil, List.append_nil]
 have hpp : C0 v (G.length + 1) w' :: (C6 (G.length + 1) w' (G ++ ovL nm (fun _ => u) G.length [(⟨arm, [], 0, 0, bs [], false, 0, 0⟩ : Ask)]) ++ ohL nm (fun _ => u) G.length [(⟨arm, [], 0, 0, bs [], false, 0, 0⟩ : Ask)]) = [(35, ⟨v, false, 88, 1, [.agg [.row 36 w' (G.length + 1)]]⟩), (36, ⟨w', false, 98, 8, G ++ [.agg [.int .i64 arm, .row (sub (sub nm G.length) 0) u 0, .int .i64 0, .int .i64 0, .str (bs []), .bool false, .int .i64 0, .int .i64 0]]⟩), (sub (sub nm G.length) 0, ⟨u, false, 3, 1, []⟩)] := by
  rw [e2, e3, e4, C0, e1]; rfl
 have hpost : FF nm v G [⟨arm, [], 0, 0, bs [], false, 0, 0⟩] (.int .i64 G.length) (C0 v (G.length + 1) w' :: (C6 (G.length + 1) w' (G ++ ovL nm (fun _ => u) G.length [(⟨arm, [], 0, 0, bs [], false, 0, 0⟩ : Ask)]) ++ ohL nm (fun _ => u) G.length [(⟨arm, [], 0, 0, bs [], false, 0, 0⟩ : Ask)])) := ⟨w', fun _ => u, rfl, rfl⟩
 rw [hpp] at hpost ⊢
 simp +contextual -dsimp only [↓SD, SU, simprocAttr, -Nat.reduceMul, g35, g36, gK, h4]
 exact hpost
set_option maxHeartbeats 4000000 in
theorem Zf (nm v : Nat) : ∀ (f : Nat) (rows : List BI) (G : List AV) (w : Nat), wtR rows < f → wtR rows ≤ 1048576 → RowsIn rows → G.length ≤ 401 →
  AH Tryz.prog 42 [.ptr 35 v 0 0, .sl (rows.map av)] (C0 v G.length w :: C6 G.length w G) (FF nm v G (A9 f G.length rows)) := by
 intro f
 induction f with
 | zero => intro rows G w h; omega
 | succ f ih =>
  intro rows G w hf hwt hin hG
  refine BA.H rfl ?_
  have hwl := YJ rows
  by_cases hbig : 400 < G.length
  ·have hP : A9 (f + 1) G.length rows = [] := by rw [A9, if_pos hbig]
   rw [hP]
   have hk : ¬ G.length = 0 := by omega
   have hbi : (400 : Int) < (G.length : Int) := by omega
   have r1 : Dt G.length w = .row 36 w G.length := if_neg hk
   have r2 : C6 G.length w G = [(36, ⟨w, false, 98, 8, G⟩)] := if_neg hk
   unfold C0
   rw [r1, r2]
   simp +contextual -dsimp only [↓SD, SU, simprocAttr, -Nat.reduceMul, BA, hbi]
   refine Ai.post [(35, ⟨v, false, 88, 1, [.agg [.row 36 w G.length]]⟩), (36, ⟨w, false, 98, 8, G⟩)] ?_
   simp +contextual -dsimp only [↓SD, SU, simprocAttr, -Nat.reduceMul, false_and]
   refine ⟨w, fun _ => 0, rfl, ?_⟩
   simp [C0, Dt, C6, hk, ovL, ohL]
  have hP : A9 (f + 1) G.length rows = CE (A9 f) G.length rows := by rw [A9, if_neg hbig]
  rw [hP]
  have hbi : ¬ (400 : Int) < (G.length : Int) := by omega
  have hlt : List.take G.length G = G := List.take_length
  have hlen0 : Fu false (Dt G.length w) = fun K => K (.int .i64 G.length) := by
   funext K
   unfold Dt
   by_cases hk : G.length = 0
   ·rw [if_pos hk, hk]; simp [Fu]
   ·rw [if_neg hk]; simp [Fu]
  cases rows with
  | nil =>
   have e0 : CE (A9 f) G.length [] = [⟨-1, [], 0, 0, bs [], false, 0, 0⟩] := rfl
   rw [e0]
   by_cases hk : G.length = 0
   ·have r1 : Dt G.length w = .Au := if_pos hk
    have r2 : C6 G.length w G = [] := if_pos hk
    have hG0 : G = [] := List.eq_nil_of_length_eq_zero hk
    unfold C0
    rw [r1, r2]
    subst hG0
    simp +contextual -dsimp only [↓SD, SU, simprocAttr, -Nat.reduceMul, BA]
    refine ⟨⟨by omega, by unfold maxLen; omega⟩, fun u => ?_⟩
    exact I6 nm v [] (-1) u _ rfl rfl rfl
   ·have r1 : Dt G.length w = .row 36 w G.length := if_neg hk
    have r2 : C6 G.length w G = [(36, ⟨w, false, 98, 8, G⟩)] := if_neg hk
    unfold C0
    rw [r1, r2]
    simp +contextual -dsimp only [↓SD, SU, simprocAttr, -Nat.reduceMul, BA, hbi, hlt]
    refine ⟨⟨by omega, by unfold maxLen; omega⟩, fun u => ?_⟩
    exact I6 nm v G (-1) u _ rfl rfl rfl
  | cons r0 rs =>
   obtain ⟨R, hR⟩ : ∃ R, R = r0 :: rs := ⟨_, rfl⟩
   have hRl : R.length = rs.length + 1 := by rw [hR]; rfl
   have hRi : ¬ (R.length : Int) = 0 := by omega
   have hRp : (0 : Int) < (R.length : Int) := by omega
   have e0 : (R.map (av : BI → AV)).getD 0 .top = av r0 := by rw [hR]; rfl
   cases ht : r0.AA with
   | nil =>
    have e00 : CE (A9 f) G.length (r0 :: rs) = [⟨r0.arm, [], 0, 0, bs [], false, 0, 0⟩] := by rw [CE, ht]; rfl
    rw [e00, ← hR]
    by_cases hk : G.length = 0
    ·have r1 : Dt G.length w = .Au := if_pos hk
     have r2 : C6 G.length w G = [] := if_pos hk
     have hG0 : G = [] := List.eq_nil_of_length_eq_zero hk
     unfold C0
     rw [r1, r2]
     subst hG0
     simp +contextual -dsimp only [↓SD, SU, simprocAttr, -Nat.reduceMul, BA, Aa, hRi, hRp, e0, Ez, ht]
     refine ⟨⟨by omega, by unfold maxLen; omega⟩, fun u => ?_⟩
     exact I6 nm v [] r0.arm u _ rfl rfl rfl
    ·have r1 : Dt G.length w = .row 36 w G.length := if_neg hk
     have r2 : C6 G.length w G = [(36, ⟨w, false, 98, 8, G⟩)] := if_neg hk
     unfold C0
     rw [r1, r2]
     simp +contextual -dsimp only [↓SD, SU, simprocAttr, -Nat.reduceMul, BA, hbi, hlt, Aa, hRi, hRp, e0, Ez, ht]
     refine ⟨⟨by omega, by unfold maxLen; omega⟩, fun u => ?_⟩
     exact I6 nm v G r0.arm u _ rfl rfl rfl
   | cons t ts =>
    have hts : ¬ (r0.AA.length : Int) = 0 := by rw [ht, List.length_cons]; omega
    have htp : (0 : Int) < (r0.AA.length : Int) := by rw [ht, List.length_cons]; omega
    have e1 : (r0.AA.map (av : Tst → AV)).getD 0 .top = av t := by rw [ht]; rfl
    have hP2 : CE (A9 f) G.length (r0 :: rs) = ⟨0, t.path, t.kind, t.n, t.s, t.has, G.length + 1, G.length + 1 + (A9 f (G.length + 1) (BP R t)).length⟩ :: (A9 f (G.length + 1) (BP R t) ++ A9 f (G.length + 1 + (A9 f (G.length + 1) (BP R t)).length) (noR R t)) := by
     rw [CE, ht, DZ, ← hR]
    have hy := P9 (rs := rs) ht
    have hn := YH (rs := rs) ht
    rw [← hR] at hy hn hwt hin hf hwl
    rw [hP2, ← hR]
    have htpl : t.path.length ≤ 1000000 := hin r0 (by rw [hR]; simp) t (by rw [ht]; simp)
    unfold C0
    have hlen1 : ∀ K, Fu false (Dt G.length w) K = K (.int .i64 G.length) := fun K => by rw [hlen0]
    simp +contextual -dsimp only [↓SD, SU, simprocAttr, -Nat.reduceMul, BA, hbi, hlen1, Aa, hRi, hRp, e0, Ez, hts, htp, e1, Ey]
    intro u6 u68 u69
    refine Cu (X := PlO) (fun q => ⟨[(0, .ptr 35 v 0 0), (5, .int .i64 G.length), (6, .ptr 6 u6 0 0), (7, .row 68 q.a (BP (R.take q.k) t).length), (8, .row 69 q.b (noR (R.take q.k) t).length), (70, .sl (R.map av)), (71, .int .i64 R.length), (72, .int .i64 q.k)], [(35, ⟨v, false, 88, 1, [.agg [.row 36 q.w G.length]]⟩), (6, ⟨u6, false, 98, 8, [av t]⟩), (68, ⟨q.a, false, 85, 2, (BP (R.take q.k) t).map av⟩), (69, ⟨q.b, false, 85, 2, (noR (R.take q.k) t).map av⟩), (36, ⟨q.w, false, 98, 8, G⟩)]⟩) (fun q => q.k ≤ R.length) (fun q => R.length - q.k) (by
     by_cases hk : G.length = 0
     ·have r1 : Dt G.length w = .Au := if_pos hk
      have r2 : C6 G.length w G = [] := if_pos hk
      have hG0 : G = [] := List.eq_nil_of_length_eq_zero hk
      rw [r1, r2]
      subst hG0
      refine Ai.EB 35 0 0 36 98 8 rfl rfl Nat.zero_lt_one rfl (by decide) fun w' => ?_
      exact Ai.le ⟨⟨0, u68, u69, w'⟩, Nat.zero_le _, rfl⟩ (by simp +contextual -dsimp only [↓SD, SU, simprocAttr, -Nat.reduceMul, List.take_zero, BP, noR, List.filter_nil]) (by simp +contextual -dsimp only [↓SD, SU, simprocAttr, -Nat.reduceMul, List.take_zero, BP, noR, List.filter_nil, Ey])
     ·have r1 : Dt G.length w = .row 36 w G.length := if_neg hk
      have r2 : C6 G.length w G = [(36, ⟨w, false, 98, 8, G⟩)] := if_neg hk
      rw [r1, r2]
      exact Ai.le ⟨⟨0, u68, u69, w⟩, Nat.zero_le _, rfl⟩ (by simp +contextual -dsimp only [↓SD, SU, simprocAttr, -Nat.reduceMul, List.take_zero, BP, noR, List.filter_nil]) (by simp +contextual -dsimp only [↓SD, SU, simprocAttr, -Nat.reduceMul, List.take_zero, BP, noR, List.filter_nil, Ey])) ?_
    clear hlen0 hlen1
    rintro ⟨k, a, b, w⟩ hk
    dsimp only at hk ⊢
    by_cases hlk : k < R.length
    ·have e2 := getD_map av R k .top hlk
     have hrk : R[k] ∈ R := List.getElem_mem hlk
     have ys := Ol (R.take k) R[k] t
     have ns := Sc (R.take k) R[k] t
     rw [← List.take_succ_eq_append_getElem hlk] at ys ns
     have yl := Q1 (R.take k) t
     have nl := Wn (R.take k) t
     have hkl : (R.take k).length = k := by simp; omega
     rw [hkl] at yl nl
     have hinr := hin R[k] hrk
     have hwr := YI hrk
     have hle := @left_eq R[k] t
     have hll := @ZH R[k] t
     generalize R[k] = r at *
     generalize BP (R.take k) t = Y at *
     generalize noR (R.take k) t = Z at *
     simp +contextual -dsimp only [↓SD, SU, simprocAttr, -Nat.reduceMul, hlk, Aa, e2, Ez]
     intro u10 u76
     refine AG (X := PlJ) (fun q => ⟨[(0, .ptr 35 v 0 0), (5, .int .i64 G.length), (6, .ptr 6 u6 0 0), (7, .row 68 a Y.length), (8, .row 69 b Z.length), (10, .ptr 10 u10 0 0), (11, .row 76 q.c ((r.AA.take q.j).filter fun x => !CV t x).length), (12, .bool ((r.AA.take q.j).any (CR t))), (70, .sl (R.map av)), (71, .int .i64 R.length), (72, .int .i64 k), (78, .sl (r.AA.map av)), (79, .int .i64 r.AA.length), (80, .int .i64 q.j)], (35, ⟨v, false, 88, 1, [.agg [.row 36 w G.length]]⟩) :: (6, ⟨u6, false, 98, 8, [av t]⟩) :: (68, ⟨a, false, 85, 2, Y.map av⟩) :: (69, ⟨b, false, 85, 2, Z.map av⟩) :: (10, ⟨u10, false, 85, 2, [av r]⟩) :: (76, ⟨q.c, false, 98, 8, ((r.AA.take q.j).filter fun x => !CV t x).map av⟩) ::  [(36, ⟨w, false, 98, 8, G⟩)]⟩) (fun q => q.j ≤ r.AA.length) (fun q => r.AA.length - q.j) ⟨0, u76⟩ (Nat.zero_le _) (by simp +contextual -dsimp only [↓SD, SU, simprocAttr, -Nat.reduceMul, List.take_zero, List.filter_nil, List.any_nil]) (by simp +contextual -dsimp only [↓SD, SU, simprocAttr, -Nat.reduceMul, List.take_zero, List.filter_nil, List.map_nil, Ez]) ?_
     rintro ⟨j, c⟩ hj
     dsimp only at hj ⊢
     by_cases hlj : j < r.AA.length
     ·have e3 := getD_map av r.AA j .top hlj
      have fs := G0 (p := fun x => !CV t x) hlj
      have an := GC (p := CR t) hlj
      have hxp := hinr _ (List.getElem_mem hlj)
      have C1 := Rw r.AA[j] t (by omega)
      have C2 := Lo r.AA[j] t (by omega)
      have fl : ((r.AA.take j).filter fun x => !CV t x).length ≤ j := by
       have h1 := List.length_filter_le (fun x => !CV t x) (r.AA.take j)
       have h2 : (r.AA.take j).length = j := by simp; omega
       omega
      generalize hx : r.AA[j] = x at *
      generalize (r.AA.take j).filter (fun x => !CV t x) = F at *
      generalize (r.AA.take j).any (CR t) = o at *
      have hct : CR t x = (Cf x t && !Eb x t) := rfl
      have hsm : CV t x = (Cf x t && Eb x t) := rfl
      have hFt : List.take F.length (F.map (av : Tst → AV)) = F.map av := List.take_of_length_le (by simp)
      have hxa := Ey x
      rw [hct] at an
      rw [hsm] at C1 fs
      rw [Ey x, Ey t] at C1 C2
      rw [Ey t]
      cases hp : Cf x t <;> cases hb : Eb x t <;> cases o
      all_goals
       rw [hp, hb] at C1 an fs
       rw [hp] at C2
       simp only [Bool.and_true, Bool.and_false, Bool.false_and, Bool.true_and, Bool.not_true, Bool.not_false, Bool.or_true, Bool.or_false, Bool.true_or, Bool.false_or, if_true, if_false, Bool.false_eq_true, List.append_nil] at C1 C2 an fs
       simp +contextual -dsimp only [↓SD, SU, simprocAttr, -Nat.reduceMul, hlj, Aa, e3, hxa]
       intro u14
       refine Ag _ C1 ?_
       simp +contextual -dsimp only [↓SD, SU, simprocAttr, -Nat.reduceMul, hFt]
       try refine ⟨⟨by rw [List.length_map]; exact Nat.le_refl _, by omega, by unfold maxLen; omega⟩, fun c' => ?_⟩
       all_goals repeat' (first | (refine Ag _ C2 ?_; simp +contextual -dsimp only [↓SD, SU, simprocAttr, -Nat.reduceMul]) | (refine Ag _ C1 ?_; simp +contextual -dsimp only [↓SD, SU, simprocAttr, -Nat.reduceMul]))
       first
        | exact ⟨by omega, Ai.le ⟨⟨j + 1, c'⟩, ⟨hlj, (by first | omega | (simp only; omega))⟩, rfl⟩ (by simp +contextual -dsimp only [↓SD, SU, simprocAttr, -Nat.reduceMul, Int.natCast_add, an, fs, List.length_append]) (by simp +contextual -dsimp only [↓SD, SU, simprocAttr, -Nat.reduceMul, fs, List.map_append, hxa])⟩
        | exact ⟨by omega, Ai.le ⟨⟨j + 1, c⟩, ⟨hlj, (by first | omega | (simp only; omega))⟩, rfl⟩ (by simp +contextual -dsimp only [↓SD, SU, simprocAttr, -Nat.reduceMul, Int.natCast_add, an, fs]) (by simp +contextual -dsimp only [↓SD, SU, simprocAttr, -Nat.reduceMul, fs, hxa])⟩
     ·obtain rfl : j = r.AA.length := by omega
      rw [List.take_length]
      obtain ⟨L, hL⟩ : ∃ L, L = r.AA.filter fun x => !CV t x := ⟨_, rfl⟩
      rw [← hL] at hle hll ⊢
      have hLl : L.length ≤ r.AA.length := by rw [hL]; exact List.length_filter_le _ _
      have hfm : ∀ hp, (L.map (av : Tst → AV)).map (AV.pur hp) = L.map av := fun hp => Ab _ hp
      have hfl : List.take L.length (L.map (av : Tst → AV)) = L.map av := List.take_of_length_le (by simp)
      have hYt : List.take Y.length (Y.map (av : BI → AV)) = Y.map av := List.take_of_length_le (by simp)
      have hZt : List.take Z.length (Z.map (av : BI → AV)) = Z.map av := List.take_of_length_le (by simp)
      have hra := Ez r
      clear hL hlj hj
      have hdec : ((L.length : Int) = r.AA.length) = (r.AA.any (CV t) = false) := by
       have h1 : ((L.length : Int) = r.AA.length) = (L.length = r.AA.length) := propext ⟨fun h => by omega, fun h => by omega⟩
       rw [h1]
       cases hs : r.AA.any (CV t) <;> rw [hs] at hll <;> simp at hll <;> simp [hll]
      clear hll
      cases hcl : r.AA.any (CR t) <;> cases hsm : r.AA.any (CV t)
      all_goals
       rw [hsm] at hdec ns
       rw [hcl] at ys
       simp only [Bool.false_eq_true, if_true, if_false, List.append_nil, Bool.true_eq_false, eq_self] at ys ns hdec
       try rw [← hle hcl] at ys
       simp +contextual -dsimp only [↓SD, SU, simprocAttr, -Nat.reduceMul, Nat.lt_irrefl]
       refine BM (Ai.frz 76 (Ai.pur 11 (Ai.here ?_)))
       simp +contextual -dsimp only [↓SD, SU, simprocAttr, -Nat.reduceMul, hfm, hfl, List.length_map, Nat.le_refl, hra, hdec, hYt, hZt]
      ·exact ⟨⟨by omega, by unfold maxLen; omega⟩, fun a' => ⟨⟨by omega, by unfold maxLen; omega⟩, fun b' => ⟨by omega, Ai.le ⟨⟨k + 1, a', b', w⟩, ⟨hlk, (by first | omega | (simp only; omega))⟩, rfl⟩ (by simp +contextual -dsimp only [↓SD, SU, simprocAttr, -Nat.reduceMul, Int.natCast_add, ys, ns, List.length_append]) (by simp +contextual -dsimp only [↓SD, SU, simprocAttr, -Nat.reduceMul, ys, ns, List.map_append, hra, Ez])⟩⟩⟩
      ·exact ⟨⟨by omega, by unfold maxLen; omega⟩, fun a' => ⟨by omega, Ai.le ⟨⟨k + 1, a', b, w⟩, ⟨hlk, (by first | omega | (simp only; omega))⟩, rfl⟩ (by simp +contextual -dsimp only [↓SD, SU, simprocAttr, -Nat.reduceMul, Int.natCast_add, ys, ns, List.length_append]) (by simp +contextual -dsimp only [↓SD, SU, simprocAttr, -Nat.reduceMul, ys, ns, List.map_append, hra, Ez])⟩⟩
      ·exact ⟨⟨by omega, by unfold maxLen; omega⟩, fun b' => ⟨by omega, Ai.le ⟨⟨k + 1, a, b', w⟩, ⟨hlk, (by first | omega | (simp only; omega))⟩, rfl⟩ (by simp +contextual -dsimp only [↓SD, SU, simprocAttr, -Nat.reduceMul, Int.natCast_add, ys, ns, List.length_append]) (by simp +contextual -dsimp only [↓SD, SU, simprocAttr, -Nat.reduceMul, ys, ns, List.map_append, hra, Ez])⟩⟩
      ·exact ⟨by omega, Ai.le ⟨⟨k + 1, a, b, w⟩, ⟨hlk, (by first | omega | (simp only; omega))⟩, rfl⟩ (by simp +contextual -dsimp only [↓SD, SU, simprocAttr, -Nat.reduceMul, Int.natCast_add, ys, ns, List.length_append]) (by simp +contextual -dsimp only [↓SD, SU, simprocAttr, -Nat.reduceMul, ys, ns, List.map_append, hra, Ez])⟩
    ·obtain rfl : k = R.length := by omega
     rw [List.take_length]
     simp +contextual -dsimp only [↓SD, SU, simprocAttr, -Nat.reduceMul, Nat.lt_irrefl, Ey]
     obtain ⟨K, hK⟩ : ∃ K, K = sub (sub nm G.length) 0 := ⟨_, rfl⟩
     have hKge : 10000 ≤ K := by rw [hK]; exact BQ _ _
     have CC := YF K t.path (by omega)
     refine Ak [] CC (by simp +contextual -dsimp only [↓SD, SU, simprocAttr, -Nat.reduceMul, Ab]) ?_
     rintro r hp' ⟨v1, rfl, rfl⟩ H hH
     rw [Af, D5] at hH
     have h35 : Aw H 35 = some ⟨v, false, 88, 1, [.agg [.row 36 w G.length]]⟩ := by rw [hH, List.cons_append, A4 (by omega)]; rfl
     have h36 : Aw H 36 = some ⟨w, false, 98, 8, G⟩ := by rw [hH, List.cons_append, A4 (by omega)]; rfl
     have h6 : Aw H 6 = some ⟨u6, false, 98, 8, [.agg [.int .i64 0, .sl (t.path.map av), .int .i64 t.kind, .int .i64 t.n, .str t.s, .bool t.has, .int .i64 0, .int .i64 0]]⟩ := by rw [hH, List.cons_append, A4 (by omega)]; rfl
     have h68 : Aw H 68 = some ⟨a, false, 85, 2, (BP R t).map av⟩ := by rw [hH, List.cons_append, A4 (by omega)]; rfl
     have h69 : Aw H 69 = some ⟨b, false, 85, 2, (noR R t).map av⟩ := by rw [hH, List.cons_append, A4 (by omega)]; rfl
     have hKH : Aw H K = some ⟨v1 K, false, 3, 1, t.path.map av⟩ := by rw [hH, List.cons_append]; exact Cm
     have hKn : ∀ q, q < 10000 → (q == K) = false := fun q hq => beq_eq_false_iff_ne.2 (by omega)
     simp +contextual -dsimp only [↓SD, SU, simprocAttr, -Nat.reduceMul, Fl, h6, h35, h36, hlt, hKn, hKH, false_and]
     refine ⟨⟨by omega, by unfold maxLen; omega⟩, fun w1 => ?_⟩
     obtain ⟨e, he⟩ : ∃ e : AV, e = .agg [.int .i64 0, .row K (v1 K) t.path.length, .int .i64 t.kind, .int .i64 t.n, .str t.s, .bool t.has, .int .i64 0, .int .i64 0] := ⟨_, rfl⟩
     rw [← he]
     have hYm : ∀ hp, ((BP R t).map (av : BI → AV)).map (AV.pur hp) = (BP R t).map av := fun hp => Ab _ hp
     have hZm : ∀ hp, ((noR R t).map (av : BI → AV)).map (AV.pur hp) = (noR R t).map av := fun hp => Ab _ hp
     have hYt : List.take (BP R t).length ((BP R t).map (av : BI → AV)) = (BP R t).map av := List.take_of_length_le (by simp)
     have hZt : List.take (noR R t).length ((noR R t).map (av : BI → AV)) = (noR R t).map av := List.take_of_length_le (by simp)
     have C1 := ih (BP R t) (G ++ [e]) w1 (by omega) (by omega) (hin.yes t) (by simp only [List.length_append, List.length_cons, List.length_nil]; omega)
     have C2 := fun (Q : List AV) (w2 : Nat) (hQ : Q.length ≤ 401) => ih (noR R t) Q w2 (by omega) (by omega) (hin.no t) hQ
     have hGe : (G ++ [e]).length = G.length + 1 := by simp
     have hP1 := EZ f (G.length + 1) (BP R t)
     rw [hGe] at C1
     generalize hp1 : A9 f (G.length + 1) (BP R t) = P1 at *
     have hP2l := EZ f (G.length + 1 + P1.length) (noR R t)
     have C3 : ∀ (Q : List AV) (w2 : Nat), Q.length = G.length + 1 + P1.length → Q.length ≤ 401 → AH Tryz.prog 42 [.ptr 35 v 0 0, .sl ((noR R t).map av)] (C0 v Q.length w2 :: C6 Q.length w2 Q) (FF nm v Q (A9 f (G.length + 1 + P1.length) (noR R t))) := fun Q w2 hQ hQ2 => by
      have := C2 Q w2 hQ2
      rw [hQ] at this ⊢
      exact this
     generalize hp2 : A9 f (G.length + 1 + P1.length) (noR R t) = P2 at *
     clear C2 ih hP hP2 hp1 hp2
     generalize BP R t = Y at *
     generalize noR R t = Z at *
     have q1 : ∀ k w, Dt (k + 1) w = .row 36 w (k + 1) := fun k w => if_neg (by omega)
     have q2 : ∀ k w es, C6 (k + 1) w es = [(36, ⟨w, false, 98, 8, es⟩)] := fun k w es => if_neg (by omega)
     unfold C0 at C1
     rw [q1, q2] at C1
     refine BM (SJ ⟨[(0, .ptr 35 v 0 0), (5, .int .i64 G.length), (7, .row 68 a Y.length), (8, .row 69 b Z.length)], [(35, ⟨v, false, 88, 1, [.agg [.row 36 w1 (G.length + 1)]]⟩), (36, ⟨w1, false, 98, 8, G ++ [e]⟩), (K, ⟨v1 K, false, 3, 1, t.path.map av⟩), (68, ⟨a, false, 85, 2, Y.map av⟩), (69, ⟨b, false, 85, 2, Z.map av⟩)]⟩ (by simp +contextual -dsimp only [↓SD, SU, simprocAttr, -Nat.reduceMul]) (by simp +contextual -dsimp only [↓SD, SU, simprocAttr, -Nat.reduceMul, h68, h69, hKH, hKn]) (Ai.frz 68 (Ai.pur 7 (Ai.frz 69 (Ai.pur 8 (Ai.here ?_))))))
     have hKn2 : ∀ q, q < 10000 → (K == q) = false := fun q hq => beq_eq_false_iff_ne.2 (by omega)
     simp +contextual -dsimp only [↓SD, SU, simprocAttr, -Nat.reduceMul, hYm, hZm, hYt, hZt, List.length_map, Nat.le_refl, hKn2]
     refine Ak [35, 36] C1 (by simp +contextual -dsimp only [↓SD, SU, simprocAttr, -Nat.reduceMul]) ?_
     rintro r hp' ⟨w2, vs1, rfl, rfl⟩ H1 hH1
     rw [hGe] at hH1 ⊢
     obtain ⟨n1, hn1⟩ : ∃ n1, n1 = G.length + 1 + P1.length := ⟨_, rfl⟩
     have hn10 : ¬ n1 = 0 := by omega
     have m1 : ∀ w, Dt n1 w = .row 36 w n1 := fun w => if_neg hn10
     have m2 : ∀ w es, C6 n1 w es = [(36, ⟨w, false, 98, 8, es⟩)] := fun w es => if_neg hn10
     obtain ⟨Q, hQ⟩ : ∃ Q, Q = G ++ [e] ++ ovL nm vs1 (G.length + 1) P1 := ⟨_, rfl⟩
     have hQl : Q.length = n1 := by rw [hQ, List.length_append, hGe, Dv, hn1]
     rw [← hn1] at hH1 hP2l C3
     rw [C0, m1, m2, ← hQ] at hH1
     have o1 : ∀ q, q < 10000 → Aw (ohL nm vs1 (G.length + 1) P1) q = none := fun q hq => Kt fun p hp e' => by
      obtain ⟨j, _, hj⟩ := Cs hp
      have := hj.ge
      omega
     have g35 : Aw H1 35 = some ⟨v, false, 88, 1, [.agg [.row 36 w2 n1]]⟩ := by rw [hH1]; exact Cm
     have g36 : Aw H1 36 = some ⟨w2, false, 98, 8, Q⟩ := by rw [hH1]; rfl
     have hKo : ∀ i vs (P : List Ask), G.length < i → ∀ p ∈ ohL nm vs i P, p.1 ≠ K := fun i vs P hi p hp e' => by
      obtain ⟨j, hj0, hj⟩ := Cs hp
      rw [e', hK] at hj
      have := hj.sib (InT.up (i := 0) .root)
      omega
     have gK : Aw H1 K = some ⟨v1 K, false, 3, 1, t.path.map av⟩ := by
      rw [hH1, List.cons_append, A4 (by omega), List.append_assoc, List.cons_append, A4 (by omega), List.nil_append, BV (hKo _ _ _ (by omega)), BE (by simp; omega), A4 (by omega), A4 (by omega), A4 (by omega), A4 (by omega)]
      exact Cm
     have gO : ∀ p ∈ ohL nm vs1 (G.length + 1) P1, Aw H1 p.1 = some p.2 := fun p hp => by
      obtain ⟨j, hj0, hj⟩ := Cs hp
      have hge := hj.ge
      rw [hH1, List.cons_append, A4 (by omega), List.append_assoc, List.cons_append, A4 (by omega), List.nil_append]
      exact IK (AM.1 (Eo nm vs1 (G.length + 1) P1) p hp)
     clear hH1 C1
     have C4 := C3 Q w2 hQl (by omega)
     rw [hQl] at C4
     rw [C0, m1, m2] at C4
     simp +contextual -dsimp only [↓SD, SU, simprocAttr, -Nat.reduceMul, hYm, hZm, hYt, hZt, List.length_map, Nat.le_refl, hKn2, g35]
     refine Ak [35, 36] C4 (by simp +contextual -dsimp only [↓SD, SU, simprocAttr, -Nat.reduceMul, g35, g36]) ?_
     rintro r hp' ⟨w3, vs2, rfl, rfl⟩ H2 hH2
     rw [hQl] at hH2 ⊢
     obtain ⟨n2, hn2⟩ : ∃ n2, n2 = n1 + P2.length := ⟨_, rfl⟩
     have hn20 : ¬ n2 = 0 := by omega
     have k1 : ∀ w, Dt n2 w = .row 36 w n2 := fun w => if_neg hn20
     have k2 : ∀ w es, C6 n2 w es = [(36, ⟨w, false, 98, 8, es⟩)] := fun w es => if_neg hn20
     obtain ⟨Q2, hQ2⟩ : ∃ Q2, Q2 = Q ++ ovL nm vs2 n1 P2 := ⟨_, rfl⟩
     have hQ2l : Q2.length = n2 := by rw [hQ2, List.length_append, hQl, Dv, hn2]
     rw [← hn2] at hH2
     rw [C0, k1, k2, ← hQ2] at hH2
     have f35 : Aw H2 35 = some ⟨v, false, 88, 1, [.agg [.row 36 w3 n2]]⟩ := by rw [hH2]; exact Cm
     have f36 : Aw H2 36 = some ⟨w3, false, 98, 8, Q2⟩ := by rw [hH2]; rfl
     have fK : Aw H2 K = some ⟨v1 K, false, 3, 1, t.path.map av⟩ := by
      rw [hH2, List.cons_append, A4 (by omega), List.append_assoc, List.cons_append, A4 (by omega), List.nil_append, BV (hKo _ _ _ (by omega)), BE (by simp; omega)]
      exact gK
     have fO2 : ∀ p ∈ ohL nm vs2 n1 P2, Aw H2 p.1 = some p.2 := fun p hp => by
      obtain ⟨j, hj0, hj⟩ := Cs hp
      have hge := hj.ge
      rw [hH2, List.cons_append, A4 (by omega), List.append_assoc, List.cons_append, A4 (by omega), List.nil_append]
      exact IK (AM.1 (Eo nm vs2 n1 P2) p hp)
     have fO1 : ∀ p ∈ ohL nm vs1 (G.length + 1) P1, Aw H2 p.1 = some p.2 := fun p hp => by
      obtain ⟨j, hj1, hj2⟩ := I4 hp
      have hin := OVal.inh hj2
      have hge := hin.ge
      have hno : ∀ q ∈ ohL nm vs2 n1 P2, q.1 ≠ p.1 := fun q hq e' => by
       obtain ⟨i, hi0, hi⟩ := Cs hq
       rw [e'] at hi
       have := hi.sib hin
       omega
      rw [hH2, List.cons_append, A4 (by omega), List.append_assoc, List.cons_append, A4 (by omega), List.nil_append, BV hno, BE (by simp; omega)]
      exact gO p hp
     clear hH2 C4 C3
     have hQe : Q2.getD G.length .top = .agg [.int .i64 0, .row K (v1 K) t.path.length, .int .i64 t.kind, .int .i64 t.n, .str t.s, .bool t.has, .int .i64 0, .int .i64 0] := by
      rw [hQ2, hQ, he]; simp [List.getD_eq_getElem?_getD]
     have hQs : ∀ x, Q2.set G.length x = G ++ x :: (ovL nm vs1 (G.length + 1) P1 ++ ovL nm vs2 n1 P2) := fun x => by
      rw [hQ2, hQ]; simp [List.set_append]
     have hltn : (G.length : Int) < (n2 : Int) := by omega
     have hltn2 : G.length < n2 := by omega
     have hss : ∀ x y, (Q2.set G.length x).set G.length y = Q2.set G.length y := fun x y => by simp
     have hsl : ∀ x, (Q2.set G.length x).length = n2 := fun x => by rw [List.length_set, hQ2l]
     have hsg : ∀ x, (Q2.set G.length x).getD G.length .top = x := fun x => by simp [List.getD_eq_getElem?_getD, hQ2l, hltn2]
     obtain ⟨a0, ha0⟩ : ∃ a0 : Ask, a0 = ⟨0, t.path, t.kind, t.n, t.s, t.has, (G.length + 1 : Nat), (n1 : Nat)⟩ := ⟨_, rfl⟩
     have hov : ovL nm (DF nm (G.length + [a0].length) (DF nm (G.length + 1 + P1.length) vs2 vs1) (fun _ => v1 K)) G.length ([a0] ++ (P1 ++ P2)) = .agg [.int .i64 0, .row K (v1 K) t.path.length, .int .i64 t.kind, .int .i64 t.n, .str t.s, .bool t.has, .int .i64 (G.length + 1 : Nat), .int .i64 n1] :: (ovL nm vs1 (G.length + 1) P1 ++ ovL nm vs2 n1 P2) := by
      rw [(FA _ _ _ _ _).1, show G.length + [a0].length = G.length + 1 from rfl, (FA _ _ _ _ _).1, ← hn1, ha0, hK]; rfl
     have hoh : ohL nm (DF nm (G.length + [a0].length) (DF nm (G.length + 1 + P1.length) vs2 vs1) (fun _ => v1 K)) G.length ([a0] ++ (P1 ++ P2)) = (K, ⟨v1 K, false, 3, 1, t.path.map av⟩) :: (ohL nm vs1 (G.length + 1) P1 ++ ohL nm vs2 n1 P2) := by
      rw [(FA _ _ _ _ _).2, show G.length + [a0].length = G.length + 1 from rfl, (FA _ _ _ _ _).2, ← hn1, ha0, hK]
      simp only [ohL, Zu, D5, List.append_nil, List.cons_append, List.nil_append]
     have hpost : FF nm v G ([a0] ++ (P1 ++ P2)) (.int .i64 G.length) _ := ⟨w3, DF nm (G.length + [a0].length) (DF nm (G.length + 1 + P1.length) vs2 vs1) (fun _ => v1 K), rfl, rfl⟩
     have hPl : G.length + ([a0] ++ (P1 ++ P2)).length = n2 := by simp only [List.length_append, List.length_cons, List.length_nil]; omega
     rw [hov, hoh, hPl, k2, C0, k1, ← hQs] at hpost
     have hPe : (⟨0, t.path, t.kind, t.n, t.s, t.has, (G.length : Int) + 1, (G.length : Int) + 1 + P1.length⟩ :: (P1 ++ P2) : List Ask) = [a0] ++ (P1 ++ P2) := by rw [ha0, hn1]; simp only [List.cons_append, List.nil_append, Int.natCast_add]; rfl
     try rw [hPe]
     simp +contextual -dsimp only [↓SD, SU, simprocAttr, -Nat.reduceMul, hYm, hZm, hYt, hZt, List.length_map, Nat.le_refl, hKn2, f35, f36, hQe, hQ2l, hltn, hltn2, hss, hsg, hsl]
     refine Ai.post _ (.intro ?_ hpost)
     rw [List.cons_append, List.nil_append]
     refine ⟨by simp +contextual -dsimp only [↓SD, SU, simprocAttr, -Nat.reduceMul, f35], by simp +contextual -dsimp only [↓SD, SU, simprocAttr, -Nat.reduceMul], by simp +contextual -dsimp only [↓SD, SU, simprocAttr, -Nat.reduceMul, fK, hKn, hKn2], ?_⟩
     rw [AK]
     have hlow : ∀ (i : Nat) (vs : Nat → Nat) (P : List Ask) p, p ∈ ohL nm vs i P → 36 ≠ p.1 := fun i vs P p hp e' => by
      obtain ⟨j, _, hj⟩ := Cs hp
      have := hj.ge
      omega
     have hl1 := hlow (G.length + 1) vs1 P1
     have hl2 := hlow n1 vs2 P2
     refine ⟨AM.2 fun p hp => ?_, AM.2 fun p hp => ?_⟩
     ·refine Eq.trans ?_ (fO1 p hp)
      dsimp only
      repeat rw [A4 (hl1 p hp)]
     ·refine Eq.trans ?_ (fO2 p hp)
      dsimp only
      repeat rw [A4 (hl2 p hp)]
end Go.Proofs.YteeiaaogmjbcjaaGreat
