/-
 THE PROGRAM'S RUN: steps, how it ends, predefined functions, by abstract texts. Conditions: none. Printed by evi.py.
-/
import Derived.Test.YtjbcnilllfaipaaGreatYJ32
import Derived.Test.YtjbcnilllfaipaaGreatYPrimW
set_option linter.unusedVariables false
set_option linter.unusedSimpArgs false
set_option maxRecDepth 100000
namespace Go.Proofs.YtjbcnilllfaipaaGreat
open Go.RowKit Go.Proofs.YtjbcnilllfaipaaGreat.Av Go.Proofs.YtjbcnilllfaipaaGreat.Ml
open Go.Proofs.YtjbcnilllfaipaaGreat.Av.AVal (av)

def wB (b tv : Nat) (M : Int) (st : ES) (n : Int) : Box := ⟨b, false, 64, 6, [.agg [.sl (st.inp.map av), .int .i64 M, .row 61 tv st.tr.length, .int .i64 st.steps, .int .i64 st.stop, .int .i64 n]]⟩
def AbZ (x : AV) (hp : Hp) (r : AV) (hp' : Hp) : Prop := r = x ∧ hp' = hp
theorem Tb (b tv : Nat) (M : Nat) (st : ES) (n : Int) (h0 : st.stop = 0) (h : M ≤ st.steps) : Ay Tryz.prog 55 [.ptr 60 b 0 0] [(60, wB b tv M st n)] (AbZ (.bool false) [(60, wB b tv M { st with stop := 3 } n)]) := by
 refine DX.H rfl ?_
 have g0 := eq_true h0
 have g1 := eq_true (show (M : Int) ≤ (st.steps : Int) by omega)
 unfold wB
 simp +contextual -dsimp (maxSteps := 2000000) only [↓SD, SU, simprocAttr, DX, h0, g1]
 refine Af.post [(60, wB b tv M { st with stop := 3 } n)] ?_
 unfold wB
 simp +contextual -dsimp (maxSteps := 2000000) only [↓SD, SU, simprocAttr]
 exact ⟨rfl, rfl⟩
theorem En (b tv : Nat) (M : Nat) (st : ES) (n : Int) (h0 : st.stop = 0) (h : ¬ M ≤ st.steps) (hM : M ≤ 100000) : Ay Tryz.prog 55 [.ptr 60 b 0 0] [(60, wB b tv M st n)] (AbZ (.bool true) [(60, wB b tv M st.tick n)]) := by
 refine DX.H rfl ?_
 have g1 := eq_false (show ¬ (M : Int) ≤ (st.steps : Int) by omega)
 have q1 : -9223372036854775808 ≤ (st.steps : Int) + 1 ∧ (st.steps : Int) + 1 ≤ 9223372036854775807 := by omega
 have hq : (st.tick.steps : Int) = (st.steps : Int) + 1 := by simp [ES.tick]
 unfold wB
 simp +contextual -dsimp (maxSteps := 2000000) only [↓SD, SU, simprocAttr, DX, h0, g1, q1.1, q1.2]
 refine Af.post [(60, wB b tv M st.tick n)] ?_
 unfold wB
 simp +contextual -dsimp (maxSteps := 2000000) only [↓SD, SU, simprocAttr, hq, show st.tick.inp = st.inp from rfl, show st.tick.tr = st.tr from rfl, show st.tick.stop = 0 from h0]
 exact ⟨rfl, by simp [wB, ES.tick, h0]⟩
theorem DE (b tv : Nat) (M : Nat) (st : ES) (n : Int) : Ay Tryz.prog 100 [.ptr 60 b 0 0] [(60, wB b tv M st n)] (AbZ (.tup []) [(60, wB b tv M { st with stop := 4 } n)]) := by
 refine HH.H rfl ?_
 unfold wB
 simp +contextual -dsimp (maxSteps := 2000000) only [↓SD, SU, simprocAttr, HH]
 refine Af.post [(60, wB b tv M { st with stop := 4 } n)] ?_
 unfold wB
 simp +contextual -dsimp (maxSteps := 2000000) only [↓SD, SU, simprocAttr]
 exact ⟨rfl, rfl⟩
theorem JQ (b tv : Nat) (M : Nat) (st : ES) (n k : Int) : Ay Tryz.prog 103 [.ptr 60 b 0 0, .int .i64 k] [(60, wB b tv M st n)] (AbZ (.tup []) [(60, wB b tv M { st with stop := 2 } k)]) := by
 refine GD.H rfl ?_
 unfold wB
 simp +contextual -dsimp (maxSteps := 2000000) only [↓SD, SU, simprocAttr, GD]
 refine Af.post [(60, wB b tv M { st with stop := 2 } k)] ?_
 unfold wB
 simp +contextual -dsimp (maxSteps := 2000000) only [↓SD, SU, simprocAttr]
 exact ⟨rfl, rfl⟩
def wH (b tv : Nat) (M : Int) (st : ES) (n : Int) : Hp := [(60, wB b tv M st n), (61, ⟨tv, false, 9, 1, st.tr.map av⟩)]
def EV.ik : EV → Int
 | .int _ => 1
 | .str _ => 2
 | .unit => 3
 | .EZ _ => 4
 | .Gl _ _ => 4
 | .pair _ _ => 5
 | .fn _ _ _ => 6
 | .given _ => 7
 | .ref _ => 8
def EV.in_ : EV → Int
 | .int n => n
 | _ => 0
def HM (o : Option EV) : AV := match o with
 | some (.int n) => .tup [.int .i64 1, .int .i64 n]
 | some _ => .tup [.int .i64 3, .int .i64 0]
 | none => .tup [.int .i64 0, .int .i64 0]
def Aev (b : Nat) (M : Int) (r : Option EV × ES) (x : AV) (hp' : Hp) : Prop := ∃ tv n, hp' = wH b tv M r.2 n ∧ (r.2.stop = 2 → n = r.2.n) ∧ x = HM r.1
set_option maxHeartbeats 8000000 in
theorem WS (b tv : Nat) (M : Nat) (st : ES) (n : Int) (s : ByteArray) (x : EV) (t : ByteArray) (hx : ∀ m, x = .int m → I64 m) (ht : ∀ u, x = .str u → t = u ∧ u.size ≤ 1099511627776) (htr : st.tr.length ≤ 1049600000000) (hin : ∀ z ∈ st.inp, I64 z) (hil : st.inp.length ≤ 1099511627776) (h0 : st.stop = 0) : Ay Tryz.prog 131 [.ptr 60 b 0 0, .str s, .int .i64 x.ik, .int .i64 x.in_, .str t] (wH b tv M st n) (Aev b M (Bm s x st)) := by
 refine Bi.H rfl ?_
 have hnt : List.take st.tr.length (st.tr.map (av : ByteArray → AV)) = st.tr.map av := List.take_of_length_le (by simp)
 have qpy : (bs [112, 114, 105, 110, 116] = bs [115, 97, 121]) = False := eq_false (by decide)
 have qpr : (bs [112, 114, 105, 110, 116] = bs [114, 101, 97, 100]) = False := eq_false (by decide)
 have qpz : (bs [112, 114, 105, 110, 116] = bs [115, 105, 122, 101]) = False := eq_false (by decide)
 have qyp : (bs [115, 97, 121] = bs [112, 114, 105, 110, 116]) = False := eq_false (by decide)
 have qyr : (bs [115, 97, 121] = bs [114, 101, 97, 100]) = False := eq_false (by decide)
 have qyz : (bs [115, 97, 121] = bs [115, 105, 122, 101]) = False := eq_false (by decide)
 have qrp : (bs [114, 101, 97, 100] = bs [112, 114, 105, 110, 116]) = False := eq_false (by decide)
 have qry : (bs [114, 101, 97, 100] = bs [115, 97, 121]) = False := eq_false (by decide)
 have qrz : (bs [114, 101, 97, 100] = bs [115, 105, 122, 101]) = False := eq_false (by decide)
 have qzp : (bs [115, 105, 122, 101] = bs [112, 114, 105, 110, 116]) = False := eq_false (by decide)
 have qzy : (bs [115, 105, 122, 101] = bs [115, 97, 121]) = False := eq_false (by decide)
 have qzr : (bs [115, 105, 122, 101] = bs [114, 101, 97, 100]) = False := eq_false (by decide)
 by_cases hp : s = bs [112, 114, 105, 110, 116]
 ·subst hp
  by_cases kx : x.ik = 1
  ·obtain ⟨u, rfl⟩ : ∃ u, x = .int u := by cases x <;> first | exact ⟨_, rfl⟩ | (simp [EV.ik] at kx)
   have r1 : (EV.int u).ik = 1 := rfl
   have r2 : (EV.int u).in_ = u := rfl
   have e : Bm (bs [112, 114, 105, 110, 116]) (.int u) st = (some .unit, { st with tr := st.tr ++ [HR u] }) := by unfold Bm; simp
   rw [e]
   clear e
   unfold wH wB
   simp +contextual -dsimp (maxSteps := 2000000) only [↓SD, SU, simprocAttr, Bi, qpy, qpr, qpz, r1, r2, hnt]
   refine Ab _ (OZ u (hx u rfl)) ?_
   simp +contextual -dsimp (maxSteps := 2000000) only [↓SD, SU, simprocAttr, Aa, hnt, B7]
   refine ⟨⟨by omega, by unfold maxLen; omega⟩, fun w => ?_⟩
   refine Af.post (wH b w M { st with tr := st.tr ++ [HR u] } n) ?_
   unfold wH wB
   simp +contextual -dsimp (maxSteps := 2000000) only [↓SD, SU, simprocAttr, List.length_append, List.map_append, B7]
   exact ⟨w, n, by simp [wH, wB, B7, ES.bad, ES.raise], fun h => absurd (h0.symm.trans h) (by decide), by simp [HM]⟩
  ·have gx := eq_false kx
   have e : Bm (bs [112, 114, 105, 110, 116]) x st = (none, st.bad) := by unfold Bm; cases x <;> first | rfl | (exact absurd rfl kx) | (simp [qpy, qpr, qpz])
   rw [e]
   clear e
   unfold wH wB
   simp +contextual -dsimp (maxSteps := 2000000) only [↓SD, SU, simprocAttr, Bi, qpy, qpr, qpz, gx]
   refine Ae [60] (DE b tv M st n) (by simp +contextual -dsimp only [↓SD, SU, simprocAttr, wB]) ?_
   rintro r hp' ⟨rfl, rfl⟩
   unfold wB
   simp +contextual -dsimp (maxSteps := 2000000) only [↓SD, SU, simprocAttr]
   refine Af.post (wH b tv M { st with stop := 4, n := 0 } n) ?_
   unfold wH wB
   simp +contextual -dsimp (maxSteps := 2000000) only [↓SD, SU, simprocAttr, List.length_append, List.map_append, B7]
   exact ⟨tv, n, by simp [wH, wB, B7, ES.bad, ES.raise], fun h => absurd h (by simp [ES.bad]), by simp [HM]⟩
 by_cases hy : s = bs [115, 97, 121]
 ·subst hy
  by_cases kx : x.ik = 2
  ·obtain ⟨u, rfl⟩ : ∃ u, x = .str u := by cases x <;> first | exact ⟨_, rfl⟩ | (simp [EV.ik] at kx)
   obtain ⟨rfl, hu⟩ := ht u rfl
   have r1 : (EV.str t).ik = 2 := rfl
   have r2 : (EV.str t).in_ = 0 := rfl
   have e : Bm (bs [115, 97, 121]) (.str t) st = (some .unit, { st with tr := st.tr ++ [t] }) := by unfold Bm; simp
   rw [e]
   clear e
   unfold wH wB
   simp +contextual -dsimp (maxSteps := 2000000) only [↓SD, SU, simprocAttr, Bi, qyp, qyr, qyz, r1, r2, hnt]
   simp +contextual -dsimp (maxSteps := 2000000) only [↓SD, SU, simprocAttr, Aa, hnt, B7]
   refine ⟨⟨by omega, by unfold maxLen; omega⟩, fun w => ?_⟩
   refine Af.post (wH b w M { st with tr := st.tr ++ [t] } n) ?_
   unfold wH wB
   simp +contextual -dsimp (maxSteps := 2000000) only [↓SD, SU, simprocAttr, List.length_append, List.map_append, B7]
   exact ⟨w, n, by simp [wH, wB, B7, ES.bad, ES.raise], fun h => absurd (h0.symm.trans h) (by decide), by simp [HM]⟩
  ·have gx := eq_false kx
   have e : Bm (bs [115, 97, 121]) x st = (none, st.bad) := by unfold Bm; cases x <;> first | rfl | (exact absurd rfl kx) | (simp [qyp, qyr, qyz])
   rw [e]
   clear e
   unfold wH wB
   simp +contextual -dsimp (maxSteps := 2000000) only [↓SD, SU, simprocAttr, Bi, qyp, qyr, qyz, gx]
   refine Ae [60] (DE b tv M st n) (by simp +contextual -dsimp only [↓SD, SU, simprocAttr, wB]) ?_
   rintro r hp' ⟨rfl, rfl⟩
   unfold wB
   simp +contextual -dsimp (maxSteps := 2000000) only [↓SD, SU, simprocAttr]
   refine Af.post (wH b tv M { st with stop := 4, n := 0 } n) ?_
   unfold wH wB
   simp +contextual -dsimp (maxSteps := 2000000) only [↓SD, SU, simprocAttr, List.length_append, List.map_append, B7]
   exact ⟨tv, n, by simp [wH, wB, B7, ES.bad, ES.raise], fun h => absurd h (by simp [ES.bad]), by simp [HM]⟩
 by_cases hz : s = bs [115, 105, 122, 101]
 ·subst hz
  by_cases kx : x.ik = 2
  ·obtain ⟨u, rfl⟩ : ∃ u, x = .str u := by cases x <;> first | exact ⟨_, rfl⟩ | (simp [EV.ik] at kx)
   obtain ⟨rfl, hu⟩ := ht u rfl
   have r1 : (EV.str t).ik = 2 := rfl
   have r2 : (EV.str t).in_ = 0 := rfl
   have e : Bm (bs [115, 105, 122, 101]) (.str t) st = (some (.int t.size), st) := by unfold Bm; simp [qzy]
   rw [e]
   clear e
   unfold wH wB
   simp +contextual -dsimp (maxSteps := 2000000) only [↓SD, SU, simprocAttr, Bi, qzp, qzy, qzr, r1, r2, hnt]
   refine Af.post (wH b tv M st n) ?_
   unfold wH wB
   simp +contextual -dsimp (maxSteps := 2000000) only [↓SD, SU, simprocAttr, List.length_append, List.map_append, B7]
   exact ⟨tv, n, by simp [wH, wB, B7, ES.bad, ES.raise], fun h => absurd (h0.symm.trans h) (by decide), by simp [HM]⟩
  ·have gx := eq_false kx
   have e : Bm (bs [115, 105, 122, 101]) x st = (none, st.bad) := by unfold Bm; cases x <;> first | rfl | (exact absurd rfl kx) | (simp [qzp, qzy, qzr])
   rw [e]
   clear e
   unfold wH wB
   simp +contextual -dsimp (maxSteps := 2000000) only [↓SD, SU, simprocAttr, Bi, qzp, qzy, qzr, gx]
   refine Ae [60] (DE b tv M st n) (by simp +contextual -dsimp only [↓SD, SU, simprocAttr, wB]) ?_
   rintro r hp' ⟨rfl, rfl⟩
   unfold wB
   simp +contextual -dsimp (maxSteps := 2000000) only [↓SD, SU, simprocAttr]
   refine Af.post (wH b tv M { st with stop := 4, n := 0 } n) ?_
   unfold wH wB
   simp +contextual -dsimp (maxSteps := 2000000) only [↓SD, SU, simprocAttr, List.length_append, List.map_append, B7]
   exact ⟨tv, n, by simp [wH, wB, B7, ES.bad, ES.raise], fun h => absurd h (by simp [ES.bad]), by simp [HM]⟩
 by_cases hr : s = bs [114, 101, 97, 100]
 ·subst hr
  by_cases kx : x.ik = 3
  ·obtain rfl : x = .unit := by cases x <;> first | rfl | (simp [EV.ik] at kx)
   have r1 : EV.unit.ik = 3 := rfl
   have r2 : EV.unit.in_ = 0 := rfl
   cases hi : st.inp with
   | nil =>
    have e : Bm (bs [114, 101, 97, 100]) .unit st = (none, st.raise (-3)) := by unfold Bm; simp only [if_true]; rw [hi]
    rw [e]
    clear e
    have hl := eq_true (show (st.inp.length : Int) = 0 by rw [hi]; rfl)
    unfold wH wB
    simp +contextual -dsimp (maxSteps := 2000000) only [↓SD, SU, simprocAttr, Bi, qrp, qry, qrz, r1, r2, Aa, hl]
    refine Ae [60] (JQ b tv M st n (-3)) (by simp +contextual -dsimp only [↓SD, SU, simprocAttr, wB]) ?_
    rintro r hp' ⟨rfl, rfl⟩
    unfold wB
    simp +contextual -dsimp (maxSteps := 2000000) only [↓SD, SU, simprocAttr]
    refine Af.post (wH b tv M (st.raise (-3)) (-3)) ?_
    unfold wH wB
    simp +contextual -dsimp (maxSteps := 2000000) only [↓SD, SU, simprocAttr, show (st.raise (-3)).inp = st.inp from rfl, show (st.raise (-3)).tr = st.tr from rfl, show (st.raise (-3)).steps = st.steps from rfl, show (st.raise (-3)).stop = 2 from rfl, List.length_append, List.map_append, B7]
    exact ⟨tv, (-3), by simp [wH, wB, B7, ES.bad, ES.raise], fun _ => rfl, by simp [HM]⟩
   | cons z r =>
    have hz := hin z (by rw [hi]; simp)
    have e : Bm (bs [114, 101, 97, 100]) .unit st = (some (.int (wr z)), { st with inp := r }) := by unfold Bm; simp only [if_true]; rw [hi]
    rw [e]
    clear e
    have hl := eq_false (show ¬ (st.inp.length : Int) = 0 by rw [hi]; simp; omega)
    have hl2 : 0 < st.inp.length := by rw [hi]; simp
    have hl3 : (0 : Int) < st.inp.length := by omega
    have hl4 : (1 : Int) ≤ st.inp.length := by omega
    have h00 : (st.inp.map (av : Int → AV)).getD 0 .top = .int .i64 z := by rw [hi]; rfl
    have hd : List.drop 1 (st.inp.map (av : Int → AV)) = r.map av := by rw [hi]; rfl
    have ht1 : List.take (st.inp.length - 1) (r.map (av : Int → AV)) = r.map av := List.take_of_length_le (by rw [hi]; simp)
    unfold wH wB
    simp +contextual -dsimp (maxSteps := 2000000) only [↓SD, SU, simprocAttr, Bi, qrp, qry, qrz, r1, r2, Aa, hl, hl2, hl3, hl4, h00, hd]
    refine Ab _ (DL z hz) ?_
    simp +contextual -dsimp (maxSteps := 2000000) only [↓SD, SU, simprocAttr, Aa, hl, hl2, hl3, hl4, h00, hd, ht1]
    refine ⟨fun x hx => by obtain ⟨y, _, rfl⟩ := List.mem_map.1 hx; rfl, ?_⟩
    refine Af.post (wH b tv M { st with inp := r } n) ?_
    unfold wH wB
    simp +contextual -dsimp (maxSteps := 2000000) only [↓SD, SU, simprocAttr, List.length_append, List.map_append, B7]
    exact ⟨tv, n, by simp [wH, wB, B7, ES.bad, ES.raise], fun h => absurd (h0.symm.trans h) (by decide), by simp [HM]⟩
  ·have gx := eq_false kx
   have e : Bm (bs [114, 101, 97, 100]) x st = (none, st.bad) := by unfold Bm; cases x <;> first | rfl | (exact absurd rfl kx) | (simp [qrp, qry, qrz])
   rw [e]
   clear e
   unfold wH wB
   simp +contextual -dsimp (maxSteps := 2000000) only [↓SD, SU, simprocAttr, Bi, qrp, qry, qrz, gx]
   refine Ae [60] (DE b tv M st n) (by simp +contextual -dsimp only [↓SD, SU, simprocAttr, wB]) ?_
   rintro r hp' ⟨rfl, rfl⟩
   unfold wB
   simp +contextual -dsimp (maxSteps := 2000000) only [↓SD, SU, simprocAttr]
   refine Af.post (wH b tv M { st with stop := 4, n := 0 } n) ?_
   unfold wH wB
   simp +contextual -dsimp (maxSteps := 2000000) only [↓SD, SU, simprocAttr, List.length_append, List.map_append, B7]
   exact ⟨tv, n, by simp [wH, wB, B7, ES.bad, ES.raise], fun h => absurd h (by simp [ES.bad]), by simp [HM]⟩
 have e : Bm s x st = (none, st.bad) := by unfold Bm; cases x <;> simp [hp, hy, hr, hz]
 rw [e]
 clear e
 have g0 := eq_false hp
 have g1 := eq_false hy
 have g2 := eq_false hr
 have g3 := eq_false hz
 unfold wH wB
 simp +contextual -dsimp (maxSteps := 2000000) only [↓SD, SU, simprocAttr, Bi, g0, g1, g2, g3]
 refine Ae [60] (DE b tv M st n) (by simp +contextual -dsimp only [↓SD, SU, simprocAttr, wB]) ?_
 rintro r hp' ⟨rfl, rfl⟩
 unfold wB
 simp +contextual -dsimp (maxSteps := 2000000) only [↓SD, SU, simprocAttr]
 refine Af.post (wH b tv M { st with stop := 4, n := 0 } n) ?_
 unfold wH wB
 simp +contextual -dsimp (maxSteps := 2000000) only [↓SD, SU, simprocAttr, List.length_append, List.map_append, B7]
 exact ⟨tv, n, by simp [wH, wB, B7, ES.bad, ES.raise], fun h => absurd h (by simp [ES.bad]), by simp [HM]⟩
end Go.Proofs.YtjbcnilllfaipaaGreat
