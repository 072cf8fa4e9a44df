/-
 Outcome IN ROWS OF THEIR OWN: copies, marks, by abstract texts. Conditions: none. Printed by genown.py.
-/
import Derived.Test.YtjbcnilllfaipaaGreatYJ43
import Derived.Test.YtjbcnilllfaipaaGreatYJ41
import Derived.Test.YtjbcnilllfaipaaGreatYJ42
import Derived.Test.YtjbcnilllfaipaaGreatProg
import Derived.Test.YtjbcnilllfaipaaGreatYAvDraw
import Derived.Test.YtjbcnilllfaipaaGreatYJ26
set_option linter.unusedVariables false
set_option linter.unusedSimpArgs false
set_option maxRecDepth 100000
namespace Go.Proofs.YtjbcnilllfaipaaGreat
open Go.RowKit Go.Proofs.YtjbcnilllfaipaaGreat.Av Go.Proofs.YtjbcnilllfaipaaGreat.Ml
open Go.Proofs.YtjbcnilllfaipaaGreat.Av.AVal (av)
open OVal (ov oh on)
open Mk (mkv cnt)

instance : OVal Outcome where
 ty := 30
 ov nm vs x := .agg [.int .i64 x.kind, .int .i64 x.n, ov (sub nm 0) vs x.trace, .int .i64 x.steps]
 oh nm vs x := oh (sub nm 0) vs x.trace
 on nm x := on (sub nm 0) x.trace
 names nm vs x := OVal.names _ _ _
 inn nm x k h := (OVal.inn _ _ _ h).up
 self nm vs x := OVal.self _ _ _
 Gm nm vs vs' x h := by
  obtain ⟨a0, b0⟩ := OVal.Gm (sub nm 0) vs vs' x.trace (fun k hk => h k hk.up)
  simp only [a0, b0, and_self]
 Hk nm vs x hp h := by
  have h0 := OVal.Hk (sub nm 0) vs x.trace hp h
  show AV.agg [.int .i64 x.kind, .int .i64 x.n, (ov (sub nm 0) vs x.trace).pur (Cy (on (sub nm 0) x.trace) hp), .int .i64 x.steps] = av x
  rw [h0]; rfl
 dep nm vs x hp hp' h := by
  have h0 := OVal.dep (sub nm 0) vs x.trace hp hp' (fun k hk => h k hk.up)
  show AV.agg [.int .i64 x.kind, .int .i64 x.n, (ov (sub nm 0) vs x.trace).pur hp, .int .i64 x.steps] = AV.agg [.int .i64 x.kind, .int .i64 x.n, (ov (sub nm 0) vs x.trace).pur hp', .int .i64 x.steps]
  rw [h0]
 free nm vs x p h := by exact OVal.free _ _ _ p h
 JH nm vs x y hx := by
  simp only [AV.cells, List.mem_cons, List.not_mem_nil, or_false] at hx
  rcases hx with rfl | rfl | rfl | rfl <;> rfl
 ok _ _ _ := rfl
 agg _ _ _ := rfl
 len _ _ _ := rfl
theorem Be (nm : Nat) (vs : Nat → Nat) (x : Outcome) : ov nm vs x = .agg [.int .i64 x.kind, .int .i64 x.n, .row (sub nm 0) (vs (sub nm 0)) x.trace.length, .int .i64 x.steps] := eqq rfl
theorem K4 (nm : Nat) (vs : Nat → Nat) (x : Outcome) : oh nm vs x = oh (sub nm 0) vs x.trace := rfl

instance : Mk Outcome := ⟨fun k x => ⟨x.kind, x.n, mkL (k) x.trace, x.steps⟩, fun x => BG x.trace⟩
theorem I0 (k : Int) (x : Outcome) : mkv k x = ⟨x.kind, x.n, mkL (k) x.trace, x.steps⟩ := rfl
theorem Kr (x : Outcome) : cnt x = BG x.trace := rfl
instance : MkB Outcome := ⟨fun x => by
 have hbx : Ad.bulk x = Ad.bulk x.kind + Ad.bulk x.n + Ad.bulk x.trace + Ad.bulk x.steps + 1 := rfl
 have hbx_0 : Ad.bulk x.kind = 1 := rfl
 have hbx_1 : Ad.bulk x.n = 1 := rfl
 have hbx_2 := BT x.trace
 have hbx_3 : Ad.bulk x.steps = 1 := rfl
 rw [Kr]
 omega⟩

theorem NJ (nm : Nat) (vs : Nat → Nat) (x : Outcome) (k : Int) (h0 : 1 ≤ k) (h1 : k + (Ad.bulk x : Int) ≤ 4611686018427387904) : Ay Tryz.prog 14 [ov nm vs x, .int .i64 k] (oh nm vs x) (Fg nm vs k x) := by
 have hbx : Ad.bulk x = Ad.bulk x.kind + Ad.bulk x.n + Ad.bulk x.trace + Ad.bulk x.steps + 1 := rfl
 have hbx_0 : Ad.bulk x.kind = 1 := rfl
 have hbx_1 : Ad.bulk x.n = 1 := rfl
 have hbx_2 := BT x.trace
 have hbx_3 : Ad.bulk x.steps = 1 := rfl
 obtain ⟨H, hH⟩ : ∃ H, H = oh nm vs x := ⟨_, rfl⟩
 have hs : Bg H (oh nm vs x) := by rw [hH]; exact OVal.self nm vs x
 rw [← hH]
 rw [K4] at hs
 refine Gy.H rfl ?_
 have hl0 := hs
 have hk0 := AH hl0
 simp +contextual -dsimp only [↓SD, SU, simprocAttr, Gy, Be, false_and, hk0]
 refine Bb (on (sub nm 0) x.trace) (NH (sub nm 0) vs x.trace _ (by omega) (by omega)) (Fm hl0) ?_
 rintro r hp' ⟨rfl, rfl⟩ H0 hH0
 have hd0 := DG hH0
 rw [Ff]
 simp +contextual -dsimp only [↓SD, SU, simprocAttr, Be, false_and]
 refine Af.post (oh nm vs (mkv k x)) ?_
 simp +contextual -dsimp only [↓SD, SU, simprocAttr]
 refine ⟨by rw [K4]; exact hd0, ?_, rfl⟩
 rw [Kr]

theorem JF (x : Outcome) (k : Int) (h0 : 1 ≤ k) (h1 : k + (Ad.bulk x : Int) ≤ 4611686018427387904) : Ap Tryz.prog 15 [av (mkv k x), .int .i64 k] (.int .i64 (k + (cnt x : Int))) := by
 have hbx : Ad.bulk x = Ad.bulk x.kind + Ad.bulk x.n + Ad.bulk x.trace + Ad.bulk x.steps + 1 := rfl
 have hbx_0 : Ad.bulk x.kind = 1 := rfl
 have hbx_1 : Ad.bulk x.n = 1 := rfl
 have hbx_2 := BT x.trace
 have hbx_3 : Ad.bulk x.steps = 1 := rfl
 rw [Kr]
 refine GA.F rfl (by simp; exact ⟨AVal.clean _, BL _⟩) (BL _) ?_
 simp +contextual -dsimp only [↓SD, SU, simprocAttr, GA, I0, A4]
 refine Ab _ (NM x.trace (k) (by omega) (by omega)) ?_
 have g0 : ¬ k + (BG x.trace : Int) < 0 := by omega
 simp +contextual -dsimp only [↓SD, SU, simprocAttr, I0, A4, g0]

end Go.Proofs.YtjbcnilllfaipaaGreat
set_option linter.unusedVariables false
set_option linter.unusedSimpArgs false
set_option maxRecDepth 100000
namespace Go.Proofs.YtjbcnilllfaipaaGreat
open Go.RowKit Go.Proofs.YtjbcnilllfaipaaGreat.Av Go.Proofs.YtjbcnilllfaipaaGreat.Ml
open Go.Proofs.YtjbcnilllfaipaaGreat.Av.AVal (av)
open OVal (ov oh on)

def Adz (tv : Nat) (st : ES) (n : Int) : AV := .agg [.int .i64 (if st.stop = 0 then 1 else st.stop), .int .i64 (if st.stop = 2 then n else 0), .row 61 tv st.tr.length, .int .i64 st.steps]
set_option maxHeartbeats 16000000 in
theorem Wk (b tv : Nat) (M : Nat) (st : ES) (n : Int) : Ay Tryz.prog 26 [.ptr 60 b 0 0] (wH b tv M st n) (AbZ (Adz tv st n) (wH b tv M st n)) := by
 refine DA.H rfl ?_
 unfold Adz
 by_cases h0 : st.stop = 0
 ·rw [if_pos h0, if_neg (by rw [h0]; decide)]
  unfold wH wB
  simp +contextual -dsimp (maxSteps := 2000000) only [↓SD, SU, simprocAttr, DA, h0]
  intro v
  repeat' apply And.intro
  all_goals
   intro v1
   refine Af.post (wH b tv M st n) ?_
   unfold wH wB
   simp +contextual -dsimp (maxSteps := 2000000) only [↓SD, SU, simprocAttr, h0]
   exact ⟨rfl, rfl⟩
 by_cases h2 : st.stop = 2
 ·rw [if_neg h0, if_pos h2]
  unfold wH wB
  simp +contextual -dsimp (maxSteps := 2000000) only [↓SD, SU, simprocAttr, DA, h2]
  intro v
  repeat' apply And.intro
  all_goals
   intro v1
   refine Af.post (wH b tv M st n) ?_
   unfold wH wB
   simp +contextual -dsimp (maxSteps := 2000000) only [↓SD, SU, simprocAttr, h2]
   exact ⟨rfl, rfl⟩
 ·rw [if_neg h0, if_neg h2]
  have g0 := eq_false h0
  have g2 := eq_false h2
  unfold wH wB
  simp +contextual -dsimp (maxSteps := 2000000) only [↓SD, SU, simprocAttr, DA, g0, g2]
  intro v
  repeat' apply And.intro
  all_goals
   intro v1
   refine Af.post (wH b tv M st n) ?_
   unfold wH wB
   simp +contextual -dsimp (maxSteps := 2000000) only [↓SD, SU, simprocAttr]
   exact ⟨rfl, rfl⟩
end Go.Proofs.YtjbcnilllfaipaaGreat
set_option linter.unusedVariables false
set_option maxRecDepth 100000
namespace Go.Proofs.YtjbcnilllfaipaaGreat
open Go.Proofs.YtjbcnilllfaipaaGreat.Av

theorem P6 : Tryz.prog.follows .mixedOrders = true := by kernel_rfl

def Hb : Ir Tryz.prog 8 [(13,60), (30, 7777), (34, 7777)] [9999, 5] 3 := ⟨_, _, Tryz.func8, P6, by kernel_rfl, Ag [] Tryz.progTables (by conv => lhs; cbv) (by kernel_rfl)⟩
end Go.Proofs.YtjbcnilllfaipaaGreat
set_option linter.unusedVariables false
set_option linter.unusedSimpArgs false
set_option maxRecDepth 100000
namespace Go.Proofs.YtjbcnilllfaipaaGreat
open Go.RowKit Go.Proofs.YtjbcnilllfaipaaGreat.Av Go.Proofs.YtjbcnilllfaipaaGreat.Ml
open Go.Proofs.YtjbcnilllfaipaaGreat.Av.AVal (av)
open OVal (ov oh on)

def Aeu (x : Outcome) (r : AV) (hp' : Hp) : Prop := ∃ v, r = .agg [.int .i64 x.kind, .int .i64 x.n, .row 61 v x.trace.length, .int .i64 x.steps] ∧ hp' = [(61, ⟨v, false, 9, 1, x.trace.map av⟩)]
set_option maxHeartbeats 8000000 in
theorem Sv (p : Program) (inp : List Int) (m : Int) (hx : Ad.bulk p ≤ 1099511627776) (hi : ∀ x ∈ inp, I64 x) (hl : inp.length ≤ 1099511627776) : Ay Tryz.prog 8 [av p, .sl (inp.map av), .int .i64 m] [] (Aeu (DT p inp m)) := by
 refine Hb.H rfl ?_
 have CO := MM p hx
 rw [Aj] at CO
 cases hb : FJ p with
 | false =>
  rw [hb] at CO
  rw [show DT p inp m = ⟨0, 0, [], 0⟩ by unfold DT; rw [if_neg (by rw [hb]; simp)]]
  simp +contextual -dsimp (maxSteps := 2000000) only [↓SD, SU, simprocAttr, Hb, Aj]
  intro v6
  refine Ab _ CO ?_
  simp +contextual -dsimp (maxSteps := 2000000) only [↓SD, SU, simprocAttr, ]
  refine Af.MZ 6 0 2 61 9 1 rfl rfl Nat.zero_lt_one rfl (by decide) fun tv => Af.post [(61, ⟨tv, false, 9, 1, []⟩)] ?_
  simp +contextual -dsimp (maxSteps := 2000000) only [↓SD, SU, simprocAttr]
  exact ⟨tv, rfl, rfl⟩
 | true =>
  rw [hb] at CO
  have hM : Fa m ≤ 20000 := by unfold Fa; omega
  have hmE : max 0 (min m 20000) = (Fa m : Int) := by unfold Fa; omega
  have e0 : DT p inp m = Wl (An p.nodes (Fa m) (Fa m + 1) 0 .nil ⟨0, inp, [], [], 0, 0⟩) := by unfold DT; rw [if_pos hb]
  rw [e0]
  clear e0
  have hP := MI hx hb
  obtain ⟨f1, f2, f3, f4, f5⟩ := Oo hx hb
  obtain ⟨q1, q2, q3, q4⟩ := Fs hx
  have CG := AcD p.nodes (fun i hi k hk => GJ f3 hi hk) q2 f5 p.nodes.length 0 (by omega) (by omega)
  rw [show Hf p.nodes p.nodes.length 0 = AD p.nodes 0 from rfl] at CG
  have hst : ES.ok p.nodes 1099511627776 (Fa m) ⟨0, inp, [], [], 0, 0⟩ := ⟨Nat.zero_le _, Nat.le_refl _, Nat.le_refl _, hi, (fun v hv => by cases hv), (fun s hs => by cases hs), (show I64 0 from (by unfold I64; decide)), hl⟩
  generalize Fa m = M at *
  have RO := BO hP.nodes hP.big (M + 1) 0 .nil ⟨0, inp, [], [], 0, 0⟩ hP.nodes.one (by rw [EE.ok]; trivial) (Nat.zero_le _) hst rfl (by simp)
  have CE := fun b tv => YE (b := b) hP (by omega : M ≤ 100000) (M + 1) 0 .nil ⟨0, inp, [], [], 0, 0⟩ tv 0 [] [] .Cx ⟨hP.nodes.one, (by rw [EE.ok]; trivial), Nat.zero_le _, hst, rfl, (by simp)⟩ ⟨rfl, rfl, fun j h1 h2 => by cases h1⟩ rfl (fun _ => rfl) (fun _ => .nil _)
  generalize An p.nodes M (M + 1) 0 .nil ⟨0, inp, [], [], 0, 0⟩ = R at *
  simp +contextual -dsimp (maxSteps := 2000000) only [↓SD, SU, simprocAttr, Hb, Aj]
  intro v6
  refine Ab _ CO ?_
  simp +contextual -dsimp (maxSteps := 2000000) only [↓SD, SU, simprocAttr, Aa, AA, hmE]
  intro b
  refine Me (Af.MZ 60 0 2 61 9 1 rfl rfl Nat.zero_lt_one rfl (by decide) fun tv => Af.le (t := ⟨[(3, .obj [.sl (p.types.map av), .sl (p.nodes.map av)]), (6, .ptr 6 v6 0 0), (7, .ptr 60 b 0 0)], [(60, wB b tv M ⟨0, inp, [], [], 0, 0⟩ 0), (61, ⟨tv, false, 9, 1, []⟩), (6, ⟨v6, false, 30, 4, [.agg [.int .i64 0, .int .i64 0, .Ar, .int .i64 0]]⟩)]⟩) ?_ (by simp +contextual -dsimp only [↓SD, SU, simprocAttr]) (by unfold wB; simp +contextual -dsimp (maxSteps := 2000000) only [↓SD, SU, simprocAttr]))
  have C := CE b tv
  rw [BE] at C
  unfold wB
  simp +contextual -dsimp (maxSteps := 2000000) only [↓SD, SU, simprocAttr, Aa, AA]
  refine Ab _ CG ?_
  simp +contextual -dsimp (maxSteps := 2000000) only [↓SD, SU, simprocAttr, A7, BW, Bx, BA]
  refine Cl _ _ (Co 0 [] []) (BC 0 [] []) C (by simp +contextual -dsimp only [↓SD, SU, simprocAttr, wB]) (by simp +contextual -dsimp only [↓SD, SU, simprocAttr]) (Bh [] [] 0) ?_
  intro r hp' hr R2 hRg
  have hR6 := hRg 6 (by decide) (by decide) (by decide)
  simp only [Aw] at hR6
  obtain ⟨ro, rp, rq⟩ := hr.form
  obtain ⟨tv1, n1, us, xs1, rfl, hR2, hn1, hv⟩ := hr
  obtain ⟨o, st2⟩ := R
  rw [BE]
  have hT' := BC 0 ([] ++ us) xs1
  obtain ⟨T', hTe'⟩ : ∃ T', T' = Co 0 ([] ++ us) xs1 := ⟨_, rfl⟩
  rw [← hTe'] at hT' ⊢
  have hG6 : Aw (BN [60, 61] (T' ++ R2)) 6 = some _ := (Ky _ _ _ (by decide)).trans ((US hT' (by decide)).trans hR6)
  have CW := Wk b tv1 M st2 n1
  unfold wB
  dsimp only
  simp +contextual -dsimp (maxSteps := 2000000) only [↓SD, SU, simprocAttr, ro, rp, rq]
  refine Ae [60, 61] CW (by simp +contextual -dsimp only [↓SD, SU, simprocAttr, wH, wB]) ?_
  rintro r2 hp2 ⟨rfl, rfl⟩
  unfold wH wB Adz
  simp +contextual -dsimp (maxSteps := 2000000) only [↓SD, SU, simprocAttr, hG6]
  refine Af.post [(61, ⟨tv1, false, 9, 1, st2.tr.map av⟩)] ?_
  simp +contextual -dsimp (maxSteps := 2000000) only [↓SD, SU, simprocAttr, false_and]
  refine ⟨tv1, ?_, ?_⟩
  ·rcases hv with ⟨v, hv, _⟩ | ⟨hv, _⟩
   ·dsimp only at hv
    subst hv
    have h0 := (RO.val v rfl).2
    dsimp only at h0
    simp [Wl, h0]
   ·dsimp only at hv
    subst hv
    have h0 := RO.stp rfl
    dsimp only at h0 hn1
    unfold Wl
    dsimp only
    rw [if_neg h0]
    by_cases h2 : st2.stop = 2
    ·rw [if_pos h2, if_pos h2, hn1 h2]
    ·rw [if_neg h2, if_neg h2]
  ·cases o <;> rfl
theorem Uu (nm : Nat) (p : Program) (inp : List Int) (m : Int) (hx : Ad.bulk p ≤ 1099511627776) (hi : ∀ x ∈ inp, I64 x) (hl : inp.length ≤ 1099511627776) : Ay Tryz.prog 8 [av p, .sl (inp.map av), .int .i64 m] [] (Fu nm (DT p inp m)) := Va (Sv p inp m hx hi hl) fun r hp' ⟨v, e1, e2⟩ => by
 subst e1 e2
 generalize DT p inp m = x
 refine Af.AeC 0 2 61 (sub nm 0) (v := v) (n := x.trace.length) rfl rfl rfl rfl fun v' => ?_
 refine Af.le (t := ⟨[(0, ov nm (fun _ => v') x)], oh nm (fun _ => v') x⟩) ⟨fun _ => v', rfl, rfl⟩ (by rw [Be]; simp [SC, BJ]) ?_
 rw [K4, Acr]
 simp +contextual -dsimp (maxSteps := 2000000) only [↓SD, SU, simprocAttr]
end Go.Proofs.YtjbcnilllfaipaaGreat
