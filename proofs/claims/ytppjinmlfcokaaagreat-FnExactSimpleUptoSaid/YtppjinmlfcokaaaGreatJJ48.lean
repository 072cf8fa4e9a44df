/-
 Simple OF THE PROGRAM, by its abstract text. Conditions: none.
-/
import Derived.Test.YtppjinmlfcokaaaGreatJJ46
import Derived.Test.YtppjinmlfcokaaaGreatJJ40
import Derived.Test.YtppjinmlfcokaaaGreatJJ47
import Derived.Test.YtppjinmlfcokaaaGreatJJ36
import Derived.Test.YtppjinmlfcokaaaGreatJOProg
import Derived.Test.YtppjinmlfcokaaaGreatJJ11
set_option linter.unusedVariables false
set_option linter.unusedSimpArgs false
set_option maxRecDepth 100000
namespace Go.Proofs.YtppjinmlfcokaaaGreat
open Go.RowKit Go.Proofs.YtppjinmlfcokaaaGreat.Av Go.Proofs.YtppjinmlfcokaaaGreat.Ml
open Go.Proofs.YtppjinmlfcokaaaGreat.Av.AVal (av)
open OVal (ov oh on)

theorem toF {f : FuncId} {args : List AV} {q : Program} (h : AU Tryz.prog f args [] (BW 9000 q)) (ha : ∀ x ∈ args, Ae x) : Ak Tryz.prog f args (av q) :=
 WJ (WH (Post2 := fun r hp' => r = av q) h fun r hp' ⟨vs, e1, e2⟩ => ⟨on 9000 q, [], trivial, by
  subst e1 e2
  have := MT (OVal.self 9000 vs q)
  rw [AA] at this ⊢
  show nz (AV.pur _ (.agg _)) = _
  rw [show AV.pur (B3 (on 9000 q) (oh 9000 vs q)) (.agg _) = av q from this, XX]⟩) ha (AVal.clean q) fun r hp' h => .inl h
theorem Z4 {ks : List Nat} {H : Hp} {k : Nat} {b : Box} (hks : ∀ k ∈ ks, 10000 ≤ k) (hk : k < 10000) (h : An H k = some b) : An (B3 ks H) k = some b := (BH fun e => by have := hks _ e; omega).trans h
structure SiS where
 i : Nat
 q : Program
 vs : Nat → Nat
theorem Ae9 (r : Int) : max 0 (min r 20) = ((min r.toNat 20 : Nat) : Int) := by omega
set_option maxHeartbeats 8000000 in
theorem Q4 (nm : Nat) (p : Program) (r : Int) (hr : -9223372036854775808 ≤ r ∧ r ≤ 9223372036854775807) (hx : Ac.bulk p ≤ 4294967296) (hs : Db p = true → SmP 2100000 p) : AU Tryz.prog 11 [av p, .int .i64 r] [] (BW nm (Eo p r)) := by
 obtain ⟨q1, q2, q3, q4⟩ := Ck hx
 have C := ER p hx
 rw [Ad] at C
 cases hb : Db p with
 | false =>
  rw [hb] at C
  rw [Eo, if_neg (by rw [hb]; simp)]
  refine C9 (Post := fun r hp' => r = .agg [.Aj, .Aj] ∧ hp' = []) (EO.H rfl ?_) ?_
  case refine_2 =>
   rintro r hp' ⟨rfl, rfl⟩
   refine Af.Vz 0 0 (sub nm 0) 72 3 rfl rfl fun u => ?_
   refine Af.Vz 0 1 (sub nm 1) 49 6 rfl rfl fun v => ?_
   have hne : sub nm 1 ≠ sub nm 0 := fun e => by have := (Em e).2; omega
   refine Af.le (t := ⟨[(0, .agg [.row (sub nm 0) u 0, .row (sub nm 1) v 0])], [(sub nm 0, ⟨u, false, 72, 3, []⟩), (sub nm 1, ⟨v, false, 49, 6, []⟩)]⟩) ⟨fun q => if q = sub nm 0 then u else v, ?_, ?_⟩ (by simp +contextual -dsimp only [↓SD, SU, simprocAttr]) ⟨?_, AZ, trivial⟩
   ·rw [AA, if_pos rfl, if_neg hne]; rfl
   ·rw [BP, B8, B8, EL, Dv, Dv, if_pos rfl, if_neg hne]; rfl
   ·rw [BE hne]; exact AZ
  simp +contextual -dsimp (maxSteps := 2000000) only [↓SD, SU, simprocAttr, EO, Ad]
  intro v4
  refine Ab _ C ?_
  simp +contextual -dsimp (maxSteps := 2000000) only [↓SD, SU, simprocAttr]
  refine Af.post [] ?_
  simp +contextual -dsimp (maxSteps := 2000000) only [↓SD, SU, simprocAttr]
 | true =>
  rw [hb] at C
  have hs := hs hb
  obtain ⟨h1, h2, h3, h4, h5, h6⟩ := D5 hx hb
  obtain ⟨f1, f2, f3, f4, f5⟩ := CJ hx hb
  have hk : ∀ i, i < p.nodes.length → ∀ k ∈ Bp p.nodes i, (i : Int) < k ∧ k < p.nodes.length := fun i hi k hk => DM f3 hi hk
  obtain ⟨g, hg⟩ : ∃ g, g = sub nm 2 := ⟨_, rfl⟩
  have hgg : 10000 ≤ g := by rw [hg]; exact Ci _ _
  have hge2 : ∀ q, q < 10000 → (q == g) = false := fun q hq => beq_eq_false_iff_ne.2 (by omega)
  have G := Nj p.nodes hk q2 p.nodes.length g 0 (by omega) (by omega)
  rw [show Bx p.nodes p.nodes.length 0 = A2 p.nodes 0 from rfl, show ((0 : Nat) : Int) = 0 from rfl] at G
  have hrk := LV hx hb
  have PO := Gz nm p.types (A2 p.nodes 0) (UR _ hrk) (by omega) q1
  rw [I1 f3] at PO
  have e : Eo p r = Fp (min r.toNat 20) p := by rw [Eo, if_pos hb, I1 f3]
  rw [e]
  refine EO.H rfl ?_
  generalize A2 p.nodes 0 = T at *
  simp +contextual -dsimp (maxSteps := 2000000) only [↓SD, SU, simprocAttr, EO, Ad]
  intro v4
  refine Ab _ C ?_
  simp +contextual -dsimp (maxSteps := 2000000) only [↓SD, SU, simprocAttr]
  refine ⟨?oA, fun v5 => ?oB⟩
  case' oA =>
   refine As [] G (by simp +contextual -dsimp only [↓SD, SU, simprocAttr]) ?_
   rintro r hp' ⟨vs, rfl, rfl⟩ H hH
   rw [Bs] at hH
   have o1 := NI hgg hH
   have l1 : Ax H (oh g vs T) := by rw [hH]; exact Bz (OVal.self _ _ _)
   have h4a : An H 4 = some (⟨v4, false, 31, 2, [.agg [.Aj, .Aj]]⟩ : Box) := (o1 4 (by omega)).trans (by simp [An])
   obtain ⟨es0, b0⟩ := Ca l1
   simp +contextual -dsimp (maxSteps := 2000000) only [↓SD, SU, simprocAttr, AD, b0, hge2, false_and]
   refine ⟨?oC, fun v5 => ?oD⟩
   case' oC =>
    refine Dp (on g T) PO (Aw (by simp +contextual -dsimp only [↓SD, SU, simprocAttr]) (Aw (EZ (AD g vs T).symm l1) rfl)) ?_
    rintro r hp3 ⟨v1, rfl, rfl⟩
    refine ⟨⟨GA _ _ _, Fh _ _ _⟩, ?_⟩
    intro H3 hH3
    have o3 := FT hH3
    have l3 : Ax H3 (oh nm v1 p) := by rw [hH3]; exact Bz (OVal.self _ _ _)
    have h4 : An H3 4 = some (⟨v4, false, 31, 2, [.agg [.Aj, .Aj]]⟩ : Box) := (o3 4 (by omega)).trans (by simp [An, h4a])
    clear o1 o3 l1 b0 hH hH3 h4a
    simp +contextual -dsimp (maxSteps := 2000000) only [↓SD, SU, simprocAttr, AA, AQ, false_and]
    intro v5
    have h5 : An ((5, (⟨v5, false, 31, 2, [.agg [.Aj, .Aj]]⟩ : Box)) :: H3) 5 = some (⟨v5, false, 31, 2, [.agg [.Aj, .Aj]]⟩ : Box) := AZ
   case' oD =>
    have l1b : Ax ((5, (⟨v5, false, 31, 2, [.agg [.Aj, .Aj]]⟩ : Box)) :: H) (oh g vs T) := Ch l1 fun p hp e => by have := (OVal.inh hp).le; omega
    refine Dp (on g T) PO (Aw (by simp +contextual -dsimp only [↓SD, SU, simprocAttr]) (Aw (EZ (AD g vs T).symm l1b) rfl)) ?_
    rintro r hp3 ⟨v1, rfl, rfl⟩
    refine ⟨⟨GA _ _ _, Fh _ _ _⟩, ?_⟩
    intro H3 hH3
    have o3 := FT hH3
    have l3 : Ax H3 (oh nm v1 p) := by rw [hH3]; exact Bz (OVal.self _ _ _)
    have h4 : An H3 4 = some (⟨v4, false, 31, 2, [.agg [.Aj, .Aj]]⟩ : Box) := (o3 4 (by omega)).trans (by simp [An, h4a])
    have h5 : An H3 5 = some (⟨v5, false, 31, 2, [.agg [.Aj, .Aj]]⟩ : Box) := (o3 5 (by omega)).trans (by simp [An])
    clear o1 o3 l1 l1b b0 hH hH3 h4a
  case' oB =>
   refine As [] G (by simp +contextual -dsimp only [↓SD, SU, simprocAttr]) ?_
   rintro r hp' ⟨vs, rfl, rfl⟩ H hH
   rw [Bs] at hH
   have o1 := NI hgg hH
   have l1 : Ax H (oh g vs T) := by rw [hH]; exact Bz (OVal.self _ _ _)
   have h4a : An H 4 = some (⟨v4, false, 31, 2, [.agg [.Aj, .Aj]]⟩ : Box) := (o1 4 (by omega)).trans (by simp [An])
   have h5a : An H 5 = some (⟨v5, false, 31, 2, [.agg [.Aj, .Aj]]⟩ : Box) := (o1 5 (by omega)).trans (by simp [An])
   obtain ⟨es0, b0⟩ := Ca l1
   simp +contextual -dsimp (maxSteps := 2000000) only [↓SD, SU, simprocAttr, AD, b0, hge2, false_and]
   refine Dp (on g T) PO (Aw (by simp +contextual -dsimp only [↓SD, SU, simprocAttr]) (Aw (EZ (AD g vs T).symm l1) rfl)) ?_
   rintro r hp3 ⟨v1, rfl, rfl⟩
   refine ⟨⟨GA _ _ _, Fh _ _ _⟩, ?_⟩
   intro H3 hH3
   have o3 := FT hH3
   have l3 : Ax H3 (oh nm v1 p) := by rw [hH3]; exact Bz (OVal.self _ _ _)
   have h4 : An H3 4 = some (⟨v4, false, 31, 2, [.agg [.Aj, .Aj]]⟩ : Box) := (o3 4 (by omega)).trans (by simp [An, h4a])
   have h5 : An H3 5 = some (⟨v5, false, 31, 2, [.agg [.Aj, .Aj]]⟩ : Box) := (o3 5 (by omega)).trans (by simp [An, h5a])
   clear o1 o3 l1 b0 hH hH3 h4a h5a
  all_goals
   have l3' := l3
   rw [BP, Ap] at l3'
   have r0 := Aq l3'.1
   have r1 := Aq l3'.2
   clear l3'
   try simp +contextual -dsimp (maxSteps := 2000000) only [↓SD, SU, simprocAttr, AA, h4, h5, r0, r1, AQ, false_and]
   refine Am (X := SiS) (fun x => ⟨[(4, .ptr 4 v4 0 0), (5, .ptr 5 v5 0 0), (19, .int .i64 ((min r.toNat 20 : Nat) : Int)), (20, .int .i64 x.i)], (5, ⟨v5, false, 31, 2, [.agg [.row (sub nm 0) (x.vs (sub nm 0)) x.q.types.length, .row (sub nm 1) (x.vs (sub nm 1)) x.q.nodes.length]]⟩) :: (4, ⟨v4, false, 31, 2, [.agg [.Aj, .Aj]]⟩) :: oh nm x.vs x.q⟩) (fun x => SmP 2100000 x.q ∧ x.i ≤ min r.toNat 20 ∧ Fp (min r.toNat 20 - x.i) x.q = Fp (min r.toNat 20) p) (fun x => min r.toNat 20 - x.i) ⟨0, p, v1⟩ ⟨hs, Nat.zero_le _, rfl⟩ (by simp +contextual -dsimp only [↓SD, SU, simprocAttr, Ae9]) (by simp +contextual -dsimp only [↓SD, SU, simprocAttr, h4, true_and]; repeat (first | exact l3 | refine KC ?_ (by decide))) ?_
   clear C G PO e hs hb hk f1 f2 f3 f4 f5 q1 q2 q3 q4 hx hrk h4 h5 r0 r1 l3 hg hge2 hgg
   rintro ⟨i, q, vs⟩ ⟨hq, hi, he⟩
   dsimp only at hq hi he ⊢
   have hH : Ax ((5, (⟨v5, false, 31, 2, [.agg [.row (sub nm 0) (vs (sub nm 0)) q.types.length, .row (sub nm 1) (vs (sub nm 1)) q.nodes.length]]⟩ : Box)) :: (4, (⟨v4, false, 31, 2, [.agg [.Aj, .Aj]]⟩ : Box)) :: oh nm vs q) (oh nm vs q) := KC (KC (OVal.self nm vs q) (by decide)) (by decide)
   by_cases hlt : i < min r.toNat 20
   ·have l1 : (i : Int) < ((min r.toNat 20 : Nat) : Int) := by omega
    have hkon : ∀ k ∈ on nm q, 10000 ≤ k := fun k h => by
     rcases List.mem_append.1 (show k ∈ on (sub nm 0) q.types ++ on (sub nm 1) q.nodes from h) with h | h
     ·exact Nat.le_trans (Ci nm 0) (OVal.inn (sub nm 0) q.types k h).le
     ·exact Nat.le_trans (Ci nm 1) (OVal.inn (sub nm 1) q.nodes k h).le
    have hl := OVal.HE nm vs q _ hH
    rw [AA, Ad] at hl
    simp +contextual -dsimp (maxSteps := 2000000) only [↓SD, SU, simprocAttr, l1]
    refine Eh (Af.Afe (on nm q) (Af.U1 5 (b := ⟨v5, false, 31, 2, [.agg [.row (sub nm 0) (vs (sub nm 0)) q.types.length, .row (sub nm 1) (vs (sub nm 1)) q.nodes.length]]⟩) (Z4 hkon (by decide) AZ) (Af.le (t := ⟨[(4, .ptr 4 v4 0 0), (5, .ptr 5 v5 0 0), (19, .int .i64 ((min r.toNat 20 : Nat) : Int)), (20, .int .i64 i)], [(5, ⟨v5, false, 31, 2, [.agg [.sl (q.types.map av), .sl (q.nodes.map av)]]⟩), (4, ⟨v4, false, 31, 2, [.agg [.Aj, .Aj]]⟩)]⟩) ?_ (by simp +contextual -dsimp only [↓SD, SU, simprocAttr]) ⟨AZ.trans (congrArg (fun x => some (⟨v5, false, 31, 2, [x]⟩ : Box)) hl), (BE (by decide)).trans (Z4 hkon (by decide) ((BE (by decide)).trans AZ)), trivial⟩)))
    clear hl hkon hH
    have CS := toF (Q3 9000 q (EI hq)) (fun x hx => by rw [List.mem_singleton.1 hx]; exact AVal.clean q)
    have hst := hq
    have hsp := NF hq
    have hstep : Uo q = Dh AE (Dh AR (if 0 < (Dh AW q).nodes.length then Dh AW q else q)) := rfl
    have hsm := Tl hq
    rw [show min r.toNat 20 - i = (min r.toNat 20 - (i + 1)) + 1 by omega, Fp] at he
    rw [hstep] at he hsm
    generalize Dh AW q = s at *
    rw [Ad, Ad] at CS
    simp +contextual -dsimp (maxSteps := 2000000) only [↓SD, SU, simprocAttr]
    refine Ab _ CS ?_
    simp +contextual -dsimp (maxSteps := 2000000) only [↓SD, SU, simprocAttr, AK, Aa]
    intro v6
    by_cases h0 : 0 < s.nodes.length
    ·rw [if_pos h0] at he hsm
     have CC := toF (LO 9000 s (EI hsp)) (fun x hx => by rw [List.mem_singleton.1 hx]; exact AVal.clean s)
     have CF := On nm _ (EI (EH hsp)) (EH hsp).2.2
     generalize Dh AR s = c at *
     generalize Dh AE c = f at *
     rw [Ad, Ad] at CC
     rw [Ad] at CF
     have h1 : ((0 : Int) < s.nodes.length) := by omega
     simp +contextual -dsimp (maxSteps := 2000000) only [↓SD, SU, simprocAttr, AK, Aa, h1, true_implies, not_true_eq_false, false_implies, not_false_eq_true, and_true, true_and]
     refine Ab _ CC ?_
     simp +contextual -dsimp (maxSteps := 2000000) only [↓SD, SU, simprocAttr, AK]
     refine As [] CF (by simp +contextual -dsimp only [↓SD, SU, simprocAttr]) ?_
     rintro r hp' ⟨v1, rfl, rfl⟩ H hH2
     rw [Bs] at hH2
     have o1 := FT hH2
     have l3 : Ax H (oh nm v1 f) := by rw [hH2]; exact Bz (OVal.self _ _ _)
     have w4 := o1 4 (by decide)
     have w5 := o1 5 (by decide)
     simp only [An, reduceIte, Nat.reduceEqDiff] at w4 w5
     have l3' := l3
     rw [BP, Ap] at l3'
     have r0 := Aq l3'.1
     have r1 := Aq l3'.2
     clear o1 l3' hH2
     simp +contextual -dsimp (maxSteps := 2000000) only [↓SD, SU, simprocAttr, AA, w4, w5, r0, r1, AQ, false_and]
     exact ⟨by omega, Af.le ⟨⟨i + 1, f, v1⟩, ⟨⟨hsm, hlt, he⟩, (by first | omega | (simp only; omega))⟩, rfl⟩ (by simp +contextual -dsimp only [↓SD, SU, simprocAttr, Int.natCast_add]) (by simp +contextual -dsimp only [↓SD, SU, simprocAttr, w4, true_and]; repeat (first | exact l3 | refine KC ?_ (by decide)))⟩
    ·rw [if_neg h0] at he hsm
     have CC := toF (LO 9000 q (EI hq)) (fun x hx => by rw [List.mem_singleton.1 hx]; exact AVal.clean q)
     have CF := On nm _ (EI (EH hq)) (EH hq).2.2
     generalize Dh AR q = c at *
     generalize Dh AE c = f at *
     rw [Ad, Ad] at CC
     rw [Ad] at CF
     have h1 : ¬ ((0 : Int) < s.nodes.length) := by omega
     simp +contextual -dsimp (maxSteps := 2000000) only [↓SD, SU, simprocAttr, AK, Aa, h1, true_implies, not_true_eq_false, false_implies, not_false_eq_true, and_true, true_and]
     refine Ab _ CC ?_
     simp +contextual -dsimp (maxSteps := 2000000) only [↓SD, SU, simprocAttr, AK]
     refine As [] CF (by simp +contextual -dsimp only [↓SD, SU, simprocAttr]) ?_
     rintro r hp' ⟨v1, rfl, rfl⟩ H hH2
     rw [Bs] at hH2
     have o1 := FT hH2
     have l3 : Ax H (oh nm v1 f) := by rw [hH2]; exact Bz (OVal.self _ _ _)
     have w4 := o1 4 (by decide)
     have w5 := o1 5 (by decide)
     simp only [An, reduceIte, Nat.reduceEqDiff] at w4 w5
     have l3' := l3
     rw [BP, Ap] at l3'
     have r0 := Aq l3'.1
     have r1 := Aq l3'.2
     clear o1 l3' hH2
     simp +contextual -dsimp (maxSteps := 2000000) only [↓SD, SU, simprocAttr, AA, w4, w5, r0, r1, AQ, false_and]
     exact ⟨by omega, Af.le ⟨⟨i + 1, f, v1⟩, ⟨⟨hsm, hlt, he⟩, (by first | omega | (simp only; omega))⟩, rfl⟩ (by simp +contextual -dsimp only [↓SD, SU, simprocAttr, Int.natCast_add]) (by simp +contextual -dsimp only [↓SD, SU, simprocAttr, w4, true_and]; repeat (first | exact l3 | refine KC ?_ (by decide)))⟩
   ·have l1 : ¬ (i : Int) < ((min r.toNat 20 : Nat) : Int) := by omega
    have hi2 : i = min r.toNat 20 := by omega
    rw [hi2, Nat.sub_self, Fp] at he
    rw [← he]
    have l3' := OVal.self nm vs q
    rw [BP, Ap] at l3'
    have r0 := Aq l3'.1
    have r1 := Aq l3'.2
    rw [← BP] at r0 r1
    simp +contextual -dsimp (maxSteps := 2000000) only [↓SD, SU, simprocAttr, l1]
    refine Af.post (oh nm vs q) ?_
    simp +contextual -dsimp (maxSteps := 2000000) only [↓SD, SU, simprocAttr, r0, r1, AQ, false_and]
    exact ⟨by repeat (first | exact hH | refine KC ?_ (by decide)), vs, by rw [AA], rfl⟩
end Go.Proofs.YtppjinmlfcokaaaGreat
set_option linter.unusedVariables false
set_option linter.unusedSimpArgs false
set_option maxRecDepth 100000
namespace Go.Proofs.YtppjinmlfcokaaaGreat
open Go.RowKit Go.Proofs.YtppjinmlfcokaaaGreat.Av Go.Proofs.YtppjinmlfcokaaaGreat.Ml
open Go.Proofs.YtppjinmlfcokaaaGreat.Av.AVal (av)
open OVal (ov oh on)
open Mk (mkv cnt)

set_option maxHeartbeats 4000000 in
theorem TI (y0 : Program) (hq0 : Ac.bulk y0 ≤ 1048576) (n1 : Int) (g1 : -9223372036854775808 ≤ n1 ∧ n1 ≤ 9223372036854775807) : Ak Tryz.prog 4 [av y0, .int .i64 n1] (.bool true) := by -- 
 have hk0 : Ac.bulk y0 ≤ 4294967296 := by omega
 have hb0 : Ac.bulk y0.types + Ac.bulk y0.nodes + 1 ≤ 4294967296 := hk0
 refine Gg.F rfl (by simp; exact ⟨AVal.clean y0, Bo _⟩) (Ae.bool _) ?_
 have T0 := Tf y0 hk0
 have E0 := TX y0 hk0
 rw [Ad] at T0 E0
 have B0 := MkB.le y0
 have CS := QX y0 n1 g1 hk0 (Ab7 hq0)
 have CI := fun nm (hnm : nm < 9000) => Q4 nm y0 n1 g1 hk0 (Ab7 hq0)
 obtain ⟨R0, hR0⟩ : ∃ R, R = Eo y0 n1 := ⟨_, rfl⟩
 have hRf := XJ hq0 n1
 rw [← hR0] at hRf
 have hRb := hRf.bulk
 rw [← hR0] at CS CI
 have EL0 := Ra R0 (by have := hRf.1; omega) (by have := hRf.2.1; omega) (fun n hn => by have := hRf.2.2 n hn; omega)
 have BL0 := MkB.le R0
 rw [Ad] at EL0
 try simp only [Ad, Ad] at CS CI
 simp +contextual -dsimp (maxSteps := 2000000) only [↓SD, SU, simprocAttr, Gg, Ad, Aa, false_and, AA, AJ]
 have Z0 := fun n h1 h2 => Tj y0 n hk0 h1 h2
 rw [Ad] at Z0
 refine BB [] (Z0 _ (by omega) (by omega)) (by simp +contextual -dsimp only [↓SD, SU, simprocAttr]) ?_
 rintro r hp' ⟨m0, rfl, rfl, a0, b0⟩
 by_cases hm0 : m0 < 0
 ·simp +contextual -dsimp (maxSteps := 2000000) only [↓SD, SU, simprocAttr, hm0]
 simp +contextual -dsimp (maxSteps := 2000000) only [↓SD, SU, simprocAttr, Ad, Aa, false_and, AA, AJ, AQ, hm0]
 repeat intro _
 refine Ab _ T0 ?_
 simp +contextual -dsimp (maxSteps := 2000000) only [↓SD, SU, simprocAttr, Ad, Aa, false_and, AA, AJ, AQ]
 repeat intro _
 refine Ab _ CS ?_
 simp +contextual -dsimp (maxSteps := 2000000) only [↓SD, SU, simprocAttr, Ad, Aa, false_and, AA, AJ, AQ]
 repeat intro _
 have O0 := QU 1001 y0 hk0
 rw [Ad] at O0
 refine As [] O0 (by simp +contextual -dsimp only [↓SD, SU, simprocAttr]) ?_
 rintro r hp' ⟨v0, rfl, rfl⟩ H1 hH1
 rw [Bs] at hH1
 have l0 : Ax H1 (oh 1001 v0 y0) := by rw [hH1]; exact Bz (OVal.self _ _ _)
 have o1 := Tv hH1 (by omega)
 have q1 := Aq (Ap.1 (show Ax _ (oh (sub 1001 0) v0 y0.types ++ oh (sub 1001 1) v0 y0.nodes) from l0)).1
 have q2 := Aq (Ap.1 (show Ax _ (oh (sub 1001 0) v0 y0.types ++ oh (sub 1001 1) v0 y0.nodes) from l0)).2
 simp +contextual -dsimp (maxSteps := 2000000) only [↓SD, SU, simprocAttr, Ad, Aa, false_and, AA, AJ, AQ, q1, q2, o1]
 repeat intro _
 refine Dp (on 1001 y0) (CI 1010 (by omega)) (Aw (MT (nm := 1001) (vs := v0) (y := y0) (by repeat (first | exact l0 | refine Al (fun h => by have := h.le; omega) ?_))) (Aw rfl (rfl))) ?_
 rintro r hp' ⟨vg, rfl, rfl⟩
 refine ⟨⟨GA _ _ _, Fh _ _ _⟩, ?_⟩
 intro H2 hH2
 have l3 : Ax H2 (oh 1010 vg R0) := by rw [hH2]; exact Bz (OVal.self _ _ _)
 have l4 : Ax H2 (oh 1001 v0 y0) := P4 hH2 (fun k hk => GR (by omega) (by omega) (by omega) hk) (by repeat (first | exact l0 | refine Al (fun h => by have := h.le; omega) ?_))
 have o2 := Tv hH2 (by omega)
 have q5 := Aq (Ap.1 (show Ax _ (oh (sub 1001 0) v0 y0.types ++ oh (sub 1001 1) v0 y0.nodes) from l4)).1
 have q6 := Aq (Ap.1 (show Ax _ (oh (sub 1001 0) v0 y0.types ++ oh (sub 1001 1) v0 y0.nodes) from l4)).2
 have q7 := Aq (Ap.1 (show Ax _ (oh (sub 1010 0) vg R0.types ++ oh (sub 1010 1) vg R0.nodes) from l3)).1
 have q8 := Aq (Ap.1 (show Ax _ (oh (sub 1010 0) vg R0.types ++ oh (sub 1010 1) vg R0.nodes) from l3)).2
 simp +contextual -dsimp (maxSteps := 2000000) only [↓SD, SU, simprocAttr, Ad, Aa, false_and, AA, AJ, AQ, q5, q6, q7, q8, o1, o2]
 repeat intro _
 refine Cd (on 1010 R0) EL0 rfl (Aw (MT (nm := 1010) (vs := vg) (y := R0) (by repeat (first | exact l3 | refine Al (fun h => by have := h.le; omega) ?_))) (Aw rfl (rfl))) ?_
 simp +contextual -dsimp (maxSteps := 2000000) only [↓SD, SU, simprocAttr, Ad, Aa, false_and, AA, AJ, AQ, q5, q6, q7, q8, o1, o2, beq_self_eq_true]
 repeat intro _
 refine Ab _ T0 ?_
 simp +contextual -dsimp (maxSteps := 2000000) only [↓SD, SU, simprocAttr, Ad, Aa, false_and, AA, AJ, AQ, q5, q6, q7, q8, o1, o2]
 repeat intro _
 refine Cd (on 1001 y0) E0 rfl (Aw (MT (nm := 1001) (vs := v0) (y := y0) (by repeat (first | exact l4 | refine Al (fun h => by have := h.le; omega) ?_))) (Aw rfl (rfl))) ?_
 simp +contextual -dsimp (maxSteps := 2000000) only [↓SD, SU, simprocAttr, Ad, Aa, false_and, AA, AJ, AQ, q5, q6, q7, q8, o1, o2, beq_self_eq_true]
 repeat intro _
 refine As (on 1001 y0) (JX 1001 v0 y0 _ (by omega) (by omega)) (Dd (by repeat (first | exact l4 | refine Al (fun h => by have := h.le; omega) ?_))) ?_
 rintro r hp' ⟨rfl, rfl⟩ H3 hH3
 have l9 : Ax H3 (oh 1001 v0 (mkv (1) y0)) := Cb hH3
 have l10 : Ax H3 (oh 1010 vg R0) := BC hH3 (fun k hk => GR (by omega) (by omega) (by omega) hk) (by repeat (first | exact l3 | refine Al (fun h => by have := h.le; omega) ?_))
 have o3 := Vv hH3 (by omega)
 have q11 := Aq (Ap.1 (show Ax _ (oh (sub 1001 0) v0 ((mkv (1) y0)).types ++ oh (sub 1001 1) v0 ((mkv (1) y0)).nodes) from l9)).1
 have q12 := Aq (Ap.1 (show Ax _ (oh (sub 1001 0) v0 ((mkv (1) y0)).types ++ oh (sub 1001 1) v0 ((mkv (1) y0)).nodes) from l9)).2
 have q13 := Aq (Ap.1 (show Ax _ (oh (sub 1010 0) vg R0.types ++ oh (sub 1010 1) vg R0.nodes) from l10)).1
 have q14 := Aq (Ap.1 (show Ax _ (oh (sub 1010 0) vg R0.types ++ oh (sub 1010 1) vg R0.nodes) from l10)).2
 have hg : ¬ 1 + (cnt y0 : Int) < 0 := by omega
 simp +contextual -dsimp (maxSteps := 2000000) only [↓SD, SU, simprocAttr, Ad, Aa, false_and, AA, AJ, AQ, q11, q12, q13, q14, o1, o2, o3, hg]
 repeat intro _
 refine Cd (on 1010 R0) EL0 rfl (Aw (MT (nm := 1010) (vs := vg) (y := R0) (by repeat (first | exact l10 | refine Al (fun h => by have := h.le; omega) ?_))) (Aw rfl (rfl))) ?_
 simp +contextual -dsimp (maxSteps := 2000000) only [↓SD, SU, simprocAttr, Ad, Aa, false_and, AA, AJ, AQ, q11, q12, q13, q14, o1, o2, o3, beq_self_eq_true]
 repeat intro _
 refine As (on 1010 R0) (JX 1010 vg R0 _ (by omega) (by omega)) (Dd (by repeat (first | exact l10 | refine Al (fun h => by have := h.le; omega) ?_))) ?_
 rintro r hp' ⟨rfl, rfl⟩ H4 hH4
 have l15 : Ax H4 (oh 1001 v0 (mkv (1) y0)) := BC hH4 (fun k hk => GR (by omega) (by omega) (by omega) hk) (by repeat (first | exact l9 | refine Al (fun h => by have := h.le; omega) ?_))
 have l16 : Ax H4 (oh 1010 vg (mkv (1) R0)) := Cb hH4
 have o4 := Vv hH4 (by omega)
 have q17 := Aq (Ap.1 (show Ax _ (oh (sub 1001 0) v0 ((mkv (1) y0)).types ++ oh (sub 1001 1) v0 ((mkv (1) y0)).nodes) from l15)).1
 have q18 := Aq (Ap.1 (show Ax _ (oh (sub 1001 0) v0 ((mkv (1) y0)).types ++ oh (sub 1001 1) v0 ((mkv (1) y0)).nodes) from l15)).2
 have q19 := Aq (Ap.1 (show Ax _ (oh (sub 1010 0) vg ((mkv (1) R0)).types ++ oh (sub 1010 1) vg ((mkv (1) R0)).nodes) from l16)).1
 have q20 := Aq (Ap.1 (show Ax _ (oh (sub 1010 0) vg ((mkv (1) R0)).types ++ oh (sub 1010 1) vg ((mkv (1) R0)).nodes) from l16)).2
 simp +contextual -dsimp (maxSteps := 2000000) only [↓SD, SU, simprocAttr, Ad, Aa, false_and, AA, AJ, AQ, q17, q18, q19, q20, o1, o2, o3, o4]
 repeat intro _
 have hh21 := Kn R0 (1) (by omega) (by omega)
 have hh21g : ¬ 1 + (cnt R0 : Int) < 0 := by omega
 refine Cd (on 1010 ((mkv (1) R0))) hh21 rfl (Aw (EZ (nm := 1010) (vs := vg) (y := ((mkv (1) R0))) (by rw [Hz, AA]; simp only [A6]) (by repeat (first | exact l16 | refine Al (fun h => by have := h.le; omega) ?_))) (Aw rfl (rfl))) ?_
 simp +contextual -dsimp (maxSteps := 2000000) only [↓SD, SU, simprocAttr, Ad, Aa, false_and, AA, AJ, AQ, q17, q18, q19, q20, o1, o2, o3, o4, hh21g, beq_self_eq_true]
 repeat intro _
 refine Ab _ T0 ?_
 simp +contextual -dsimp (maxSteps := 2000000) only [↓SD, SU, simprocAttr, Ad, Aa, false_and, AA, AJ, AQ, q17, q18, q19, q20, o1, o2, o3, o4]
 repeat intro _
 refine As [] (CI 1020 (by omega)) (by simp +contextual -dsimp only [↓SD, SU, simprocAttr]) ?_
 rintro r hp' ⟨vh, rfl, rfl⟩ H5 hH5
 rw [Bs] at hH5
 have l22 : Ax H5 (oh 1020 vh R0) := by rw [hH5]; exact Bz (OVal.self _ _ _)
 have l23 : Ax H5 (oh 1001 v0 (mkv (1) y0)) := P4 hH5 (fun k hk => GR (by omega) (by omega) (by omega) hk) (by repeat (first | exact l15 | refine Al (fun h => by have := h.le; omega) ?_))
 have l24 : Ax H5 (oh 1010 vg (mkv (1) R0)) := P4 hH5 (fun k hk => GR (by omega) (by omega) (by omega) hk) (by repeat (first | exact l16 | refine Al (fun h => by have := h.le; omega) ?_))
 have o5 := Tv hH5 (by omega)
 have q25 := Aq (Ap.1 (show Ax _ (oh (sub 1001 0) v0 ((mkv (1) y0)).types ++ oh (sub 1001 1) v0 ((mkv (1) y0)).nodes) from l23)).1
 have q26 := Aq (Ap.1 (show Ax _ (oh (sub 1001 0) v0 ((mkv (1) y0)).types ++ oh (sub 1001 1) v0 ((mkv (1) y0)).nodes) from l23)).2
 have q27 := Aq (Ap.1 (show Ax _ (oh (sub 1010 0) vg ((mkv (1) R0)).types ++ oh (sub 1010 1) vg ((mkv (1) R0)).nodes) from l24)).1
 have q28 := Aq (Ap.1 (show Ax _ (oh (sub 1010 0) vg ((mkv (1) R0)).types ++ oh (sub 1010 1) vg ((mkv (1) R0)).nodes) from l24)).2
 have q29 := Aq (Ap.1 (show Ax _ (oh (sub 1020 0) vh R0.types ++ oh (sub 1020 1) vh R0.nodes) from l22)).1
 have q30 := Aq (Ap.1 (show Ax _ (oh (sub 1020 0) vh R0.types ++ oh (sub 1020 1) vh R0.nodes) from l22)).2
 simp +contextual -dsimp (maxSteps := 2000000) only [↓SD, SU, simprocAttr, Ad, Aa, false_and, AA, AJ, AQ, q25, q26, q27, q28, q29, q30, o1, o2, o3, o4, o5]
 repeat intro _
 refine Cd (on 1020 R0) EL0 rfl (Aw (MT (nm := 1020) (vs := vh) (y := R0) (by repeat (first | exact l22 | refine Al (fun h => by have := h.le; omega) ?_))) (Aw rfl (rfl))) ?_
 simp +contextual -dsimp (maxSteps := 2000000) only [↓SD, SU, simprocAttr, Ad, Aa, false_and, AA, AJ, AQ, q25, q26, q27, q28, q29, q30, o1, o2, o3, o4, o5, beq_self_eq_true]
 repeat intro _
 have hh31 := Kn R0 (1) (by omega) (by omega)
 have hh31g : ¬ 1 + (cnt R0 : Int) < 0 := by omega
 refine Cd (on 1010 ((mkv (1) R0))) hh31 rfl (Aw (EZ (nm := 1010) (vs := vg) (y := ((mkv (1) R0))) (by rw [Hz, AA]; simp only [A6]) (by repeat (first | exact l24 | refine Al (fun h => by have := h.le; omega) ?_))) (Aw rfl (rfl))) ?_
 simp +contextual -dsimp (maxSteps := 2000000) only [↓SD, SU, simprocAttr, Ad, Aa, false_and, AA, AJ, AQ, q25, q26, q27, q28, q29, q30, o1, o2, o3, o4, o5, hh31g, beq_self_eq_true]
 repeat intro _
end Go.Proofs.YtppjinmlfcokaaaGreat
