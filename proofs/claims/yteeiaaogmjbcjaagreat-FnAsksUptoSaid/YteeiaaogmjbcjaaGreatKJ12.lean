/-
 DataOk OF THE REFERENCE, by abstract texts. Conditions: none.
-/
import Derived.Test.YteeiaaogmjbcjaaGreatKJ11
import Derived.Test.YteeiaaogmjbcjaaGreatProg
import Derived.Test.YteeiaaogmjbcjaaGreatKAvDraw
set_option linter.unusedVariables false
set_option linter.unusedSimpArgs false
set_option maxRecDepth 100000
namespace Go.Proofs.YteeiaaogmjbcjaaGreat
open Go.RowKit Go.Proofs.YteeiaaogmjbcjaaGreat.Av Go.Proofs.YteeiaaogmjbcjaaGreat.Ml
open Go.Proofs.YteeiaaogmjbcjaaGreat.Av.AVal (av)

theorem Qo (l : List AY) (hx : AB.bulk l ≤ 1048576) : ∀ (f i : Nat), l.length - i < f → i ≤ 1048576 → AG Tryz.prog 68 [.agg [.sl (l.map av)], .int .i64 i] (.int .i64 (Me (B3 (A5 l) l.length f i))) := by
 have hl := Bh l
 intro f
 induction f with
 | zero => intro i h; omega
 | succ f ih =>
  intro i hf hi0
  refine Gw.F rfl (by simp; exact ⟨Aj.agg (by simp; exact Aw l), Ea _⟩) (Ea _) ?_
  by_cases hi : i < l.length
  ·have e := getD_map av l i .top hi
   have hs := (DK hx i hi).1
   have hK : A5 l i = l[i].kids := by rw [A5, Be hi]
   have hE : B3 (A5 l) l.length (f + 1) i = Ce (B3 (A5 l) l.length f) l[i].kids (i + 1) := by rw [B3, if_pos hi, hK]
   rw [hE]
   generalize l[i] = a at *
   simp +contextual -dsimp only [↓SD, SU, simprocAttr, Gw, Aa, hi, e, Bm, Nat.not_le]
   refine ⟨by omega, by omega, ?_⟩
   refine AF (X := Nat × Nat) (fun x => ⟨[(2, .obj [.sl (l.map av)]), (5, .int .i64 x.2), (20, .sl (a.kids.map av)), (21, .int .i64 a.kids.length), (22, .int .i64 x.1)], []⟩) (fun x => x.1 ≤ a.kids.length ∧ i < x.2 ∧ x.2 ≤ l.length ∧ Ce (B3 (A5 l) l.length f) a.kids (i + 1) = Ce (B3 (A5 l) l.length f) (a.kids.drop x.1) x.2) (fun x => a.kids.length - x.1) (0, i + 1) ⟨Nat.zero_le _, by simp, by simp only; omega, rfl⟩ (by simp +contextual -dsimp only [↓SD, SU, simprocAttr, Int.natCast_add]) trivial ?_
   rintro ⟨j, m⟩ ⟨hj, hm1, hm2, he⟩
   simp only at hj hm1 hm2 he
   by_cases hlt : j < a.kids.length
   ·have e2 := getD_map av a.kids j .top hlt
    rw [List.drop_eq_getElem_cons hlt, Ce] at he
    have C := ih m (by omega) (by omega)
    by_cases hkm : a.kids[j] = (m : Int)
    ·rw [if_pos hkm] at he
     simp +contextual -dsimp only [↓SD, SU, simprocAttr, Aa, hlt, e2, Af, hkm]
     refine Ae _ C ?_
     cases hm' : B3 (A5 l) l.length f m with
     | none =>
      rw [hm'] at he
      simp +contextual -dsimp only [↓SD, SU, simprocAttr, Me]
      rw [he]
     | some m' =>
      rw [hm'] at he
      have := Fx (A5 l) l.length f m m' hm'
      have hneg : ¬ ((m' : Int) < 0) := by omega
      simp +contextual -dsimp only [↓SD, SU, simprocAttr, Me, hneg]
      refine ⟨by omega, Ah.le ⟨(j + 1, m'), ⟨⟨hlt, by simp only; omega, this.2, he⟩, (by first | omega | (simp only; omega))⟩, rfl⟩ (by simp +contextual -dsimp only [↓SD, SU, simprocAttr, Int.natCast_add]) trivial⟩
    ·rw [if_neg hkm] at he
     simp +contextual -dsimp only [↓SD, SU, simprocAttr, Aa, hlt, e2, Af, hkm]
     rw [he]; rfl
   ·obtain rfl : j = a.kids.length := by omega
    rw [List.drop_length, Ce] at he
    simp +contextual -dsimp only [↓SD, SU, simprocAttr, Aa, Nat.lt_irrefl]
    rw [he]; rfl
  ·have hE : B3 (A5 l) l.length (f + 1) i = none := by rw [B3, if_neg hi]
   have hi' : l.length ≤ i := by omega
   simp +contextual -dsimp only [↓SD, SU, simprocAttr, Gw, Aa, hi', hE]
   rfl
set_option maxHeartbeats 4000000 in
theorem Pj (l : List AY) (hx : AB.bulk l ≤ 1048576) (hr : ∀ n ∈ l, -9223372036854775808 ≤ n.n ∧ n.n ≤ 9223372036854775807) : AG Tryz.prog 34 [.agg [.sl (l.map av)]] (.bool (Ct l)) := by
 have hl := Bh l
 refine Jz.F rfl (by simp; exact Aj.agg (by simp; exact Aw l)) (Aj.bool _) ?_
 simp +contextual -dsimp only [↓SD, SU, simprocAttr, Jz, Aa]
 refine ⟨fun h1 => ⟨fun h2 => by rw [JR (by omega)], fun h2 => ?_⟩, fun h1 => by rw [JR (by omega)]⟩
 refine AF (X := Nat) (fun k => ⟨[(1, .obj [.sl (l.map av)]), (18, .sl (l.map av)), (19, .int .i64 l.length), (20, .int .i64 k)], []⟩) (fun k => k ≤ l.length ∧ (l.take k).all (Bb l) = true) (fun k => l.length - k) 0 ⟨Nat.zero_le _, rfl⟩ (by simp +contextual -dsimp only [↓SD, SU, simprocAttr]) trivial ?_
 rintro k ⟨hk, hp⟩
 by_cases hlt : k < l.length
 ·have e := getD_map av l k .top hlt
  obtain ⟨s1, s2⟩ := DK hx k hlt
  have hr1 := hr _ (List.getElem_mem hlt)
  have hno : Bb l l[k] = false → Ct l = false := Abk hlt
  have hyes : Bb l l[k] = true → (l.take (k + 1)).all (Bb l) = true := fun h => by rw [Gk _ hlt hp]; exact h
  obtain ⟨D, hD⟩ : ∃ D, D = Ct l := ⟨_, rfl⟩
  rw [← hD] at hno ⊢
  clear hD hp
  generalize l[k] = a at *
  obtain ⟨kind, nn, s, kids⟩ := a
  simp only at s1 s2 hr1
  obtain ⟨m, CW, hm⟩ := Z4 nn hr1
  rcases kids with _ | ⟨k0, _ | ⟨k1, _ | ⟨k2, ks⟩⟩⟩
  case cons.nil =>
   by_cases g : 0 ≤ k0 ∧ k0 < l.length
   ·obtain ⟨g0, g1⟩ := g
    have g2 : k0.toNat < l.length := by omega
    have e2 := Nm l default g2
    rw [Bm] at e2
    have ho : Bw AY.kind l [k0] 5 = decide ((l.getD k0.toNat default).kind = 5) := by
     unfold Bw
     simp only [decide_eq_true g0, decide_eq_true g1, Bool.true_and]
    generalize l.getD k0.toNat default = y at e2 ho
    simp +contextual -dsimp only [↓SD, SU, simprocAttr, Aa, hlt, e, Bm, Af, g0, g1, g2, e2]
    intro v
    (repeat' (first | intro _ | refine And.intro ?_ ?_))
    all_goals first | omega | skip
    all_goals first | (refine Ae _ CW ?_; simp +contextual -dsimp only [↓SD, SU, simprocAttr, *, Aa]; (repeat' (first | intro _ | refine And.intro ?_ ?_))) | (refine Ae _ (DI _ _ _ (by omega)) ?_; simp +contextual -dsimp only [↓SD, SU, simprocAttr, *, Aa]; (repeat' (first | intro _ | refine And.intro ?_ ?_))) | skip
    all_goals first | omega | skip
    all_goals first
     | (refine congrArg AV.bool (hno ?_).symm; first | (simp [Bb, ho, *]; done) | (simp [Bb, ho, *]; omega) | (simp [Bb, ho, *]; intro _ _; omega))
     | (refine Ah.le ⟨k + 1, ⟨⟨hlt, hyes ?_⟩, (by first | omega | (simp only; omega))⟩, rfl⟩ (by simp +contextual -dsimp only [↓SD, SU, simprocAttr, Int.natCast_add]) trivial; first | (simp [Bb, ho, *]; done) | (simp [Bb, ho, *]; omega))
     | trace_state
   ·have ho : Bw AY.kind l [k0] 5 = false := Ll (by simpa using g)
    by_cases g0 : 0 ≤ k0
    case' pos => have g1 : ¬ k0 < l.length := fun h => g ⟨g0, h⟩
    case' pos => simp +contextual -dsimp only [↓SD, SU, simprocAttr, Aa, hlt, e, Bm, Af, g0, g1]
    case' neg => simp +contextual -dsimp only [↓SD, SU, simprocAttr, Aa, hlt, e, Bm, Af, g0]
    all_goals clear g
    all_goals
     intro v
     (repeat' (first | intro _ | refine And.intro ?_ ?_))
     all_goals first | omega | skip
     all_goals first | (refine Ae _ CW ?_; simp +contextual -dsimp only [↓SD, SU, simprocAttr, *, Aa]; (repeat' (first | intro _ | refine And.intro ?_ ?_))) | (refine Ae _ (DI _ _ _ (by omega)) ?_; simp +contextual -dsimp only [↓SD, SU, simprocAttr, *, Aa]; (repeat' (first | intro _ | refine And.intro ?_ ?_))) | skip
     all_goals first | omega | skip
     all_goals first
      | (refine congrArg AV.bool (hno ?_).symm; first | (simp [Bb, ho, *]; done) | (simp [Bb, ho, *]; omega) | (simp [Bb, ho, *]; intro _ _; omega))
      | (refine Ah.le ⟨k + 1, ⟨⟨hlt, hyes ?_⟩, (by first | omega | (simp only; omega))⟩, rfl⟩ (by simp +contextual -dsimp only [↓SD, SU, simprocAttr, Int.natCast_add]) trivial; first | (simp [Bb, ho, *]; done) | (simp [Bb, ho, *]; omega))
      | trace_state
  case cons.cons.cons =>
   have q0 : ¬ ((ks.length + 1 + 1 + 1 : Nat) : Int) = 0 := by omega
   have q1 : ¬ ((ks.length + 1 + 1 + 1 : Nat) : Int) = 1 := by omega
   have q2 : ¬ ((ks.length + 1 + 1 + 1 : Nat) : Int) = 2 := by omega
   simp +contextual -dsimp only [↓SD, SU, simprocAttr, Aa, hlt, e, Bm, Af, q0, q1, q2]
   intro v
   (repeat' (first | intro _ | refine And.intro ?_ ?_))
   all_goals first | omega | skip
   all_goals first | (refine Ae _ CW ?_; simp +contextual -dsimp only [↓SD, SU, simprocAttr, *, Aa]; (repeat' (first | intro _ | refine And.intro ?_ ?_))) | (refine Ae _ (DI _ _ _ (by omega)) ?_; simp +contextual -dsimp only [↓SD, SU, simprocAttr, *, Aa]; (repeat' (first | intro _ | refine And.intro ?_ ?_))) | skip
   all_goals first | omega | skip
   all_goals (try push_cast at *)
   all_goals first
    | (refine congrArg AV.bool (hno ?_).symm; first | (simp [Bb, Bw, *]; done) | (simp [Bb, Bw, *]; omega) | (simp [Bb, Bw, *]; intro _ _; omega))
    | (refine Ah.le ⟨k + 1, ⟨⟨hlt, hyes ?_⟩, (by first | omega | (simp only; omega))⟩, rfl⟩ (by simp +contextual -dsimp only [↓SD, SU, simprocAttr, Int.natCast_add]) trivial; first | (simp [Bb, Bw, *]; done) | (simp [Bb, Bw, *]; omega))
    | trace_state
  all_goals
   simp +contextual -dsimp only [↓SD, SU, simprocAttr, Aa, hlt, e, Bm, Af]
   intro v
   (repeat' (first | intro _ | refine And.intro ?_ ?_))
   all_goals first | omega | skip
   all_goals first | (refine Ae _ CW ?_; simp +contextual -dsimp only [↓SD, SU, simprocAttr, *, Aa]; (repeat' (first | intro _ | refine And.intro ?_ ?_))) | (refine Ae _ (DI _ _ _ (by omega)) ?_; simp +contextual -dsimp only [↓SD, SU, simprocAttr, *, Aa]; (repeat' (first | intro _ | refine And.intro ?_ ?_))) | skip
   all_goals first | omega | skip
   all_goals first
    | (refine congrArg AV.bool (hno ?_).symm; first | (simp [Bb, Bw, *]; done) | (simp [Bb, Bw, *]; omega) | (simp [Bb, Bw, *]; intro _ _; omega))
    | (refine Ah.le ⟨k + 1, ⟨⟨hlt, hyes ?_⟩, (by first | omega | (simp only; omega))⟩, rfl⟩ (by simp +contextual -dsimp only [↓SD, SU, simprocAttr, Int.natCast_add]) trivial; first | (simp [Bb, Bw, *]; done) | (simp [Bb, Bw, *]; omega))
    | trace_state
 ·obtain rfl : k = l.length := by omega
  rw [List.take_length] at hp
  have C := Qo l hx (l.length + 1) 0 (by omega) (by omega)
  simp +contextual -dsimp only [↓SD, SU, simprocAttr, Aa, Nat.lt_irrefl]
  refine Ae _ C ?_
  simp +contextual -dsimp only [↓SD, SU, simprocAttr, Aa]
  congr 1
  cases ht : Du (A5 l) l.length with
  | true =>
   rw [Uv (by omega) (by omega) ht, hp]
   unfold Du at ht
   rw [of_decide_eq_true ht]; simp [Me]
  | false =>
   rw [OL ht]
   unfold Du at ht
   cases ho : B3 (A5 l) l.length (l.length + 1) 0 with
   | none => simp [Me]
   | some m =>
    rw [ho] at ht
    have hne : m ≠ l.length := fun e => by simp [e] at ht
    exact decide_eq_false (by simp only [Me]; omega)
end Go.Proofs.YteeiaaogmjbcjaaGreat
set_option linter.unusedVariables false
set_option maxRecDepth 100000
namespace Go.Proofs.YteeiaaogmjbcjaaGreat
open Go.Proofs.YteeiaaogmjbcjaaGreat.Av

theorem Pu : Tryz.prog.follows .mixedOrders = true := by kernel_rfl

def IZ : Ir Tryz.prog 31 [(20,20)] [] 2 := ⟨_, _, Tryz.func31, Pu, by kernel_rfl, Ay [] Tryz.progTables (by conv => lhs; cbv) (by kernel_rfl)⟩
end Go.Proofs.YteeiaaogmjbcjaaGreat
set_option linter.unusedVariables false
set_option linter.unusedSimpArgs false
set_option maxRecDepth 100000
namespace Go.Proofs.YteeiaaogmjbcjaaGreat
open Go.RowKit Go.Proofs.YteeiaaogmjbcjaaGreat.Av Go.Proofs.YteeiaaogmjbcjaaGreat.Ml
open Go.Proofs.YteeiaaogmjbcjaaGreat.Av.AVal (av)

theorem MN (l : List AU) (hk : ∀ i, i < l.length → ∀ k ∈ BK l i, (i : Int) < k ∧ k < l.length) (hx : AB.bulk l ≤ 1048576) : ∀ (f i : Nat), i < l.length → l.length - i ≤ f → AG Tryz.prog 31 [.sl (l.map av), .int .i64 i] (av (BD (phd l) (BK l) f i)) := by
 intro f
 induction f with
 | zero => intro i hi hf; omega
 | succ f ih =>
  intro i hi hf
  have hl := Bh l
  have e := getD_map av l i .top hi
  have hs := (Ed hx i hi).1
  have hK : BK l i = l[i].kids := by rw [BK, Be hi]
  have hH : phd l i = ⟨l[i].kind, l[i].n, l[i].s⟩ := by rw [phd, Be hi]
  have hg : BD (phd l) (BK l) (f + 1) i = .mk ⟨l[i].kind, l[i].n, l[i].s⟩ (l[i].kids.map fun k => BD (phd l) (BK l) f k.toNat) := by rw [BD, hK, hH]
  have hks := hk i hi
  rw [hK] at hks
  refine IZ.F rfl (by simp; exact ⟨Aw l, Ea _⟩) (AVal.clean _) ?_
  rw [hg]
  clear hg hK hH
  generalize l[i] = n at *
  simp +contextual -dsimp only [↓SD, SU, simprocAttr, IZ, Aa, hi, e, A8]
  intro w5 w
  refine Cm (X := Nat × Nat) (fun x => ⟨[(0, .sl (l.map av)), (6, .ptr 20 w 0 0), (22, .sl (n.kids.map av)), (23, .int .i64 n.kids.length), (24, .int .i64 x.1)], [(20, ⟨w, false, 125, 4, [.agg [.int .i64 n.kind, .int .i64 n.n, .str n.s, .row 37 x.2 x.1]]⟩), (37, ⟨x.2, false, 73, 1, ((n.kids.take x.1).map fun k => BD (phd l) (BK l) f k.toNat).map av⟩)]⟩) (fun x => x.1 ≤ n.kids.length) (fun x => n.kids.length - x.1) (Ah.EF 20 0 3 37 73 1 rfl rfl Nat.zero_lt_one rfl (by decide) (fun v => Ah.le ⟨(0, v), Nat.zero_le _, rfl⟩ (by simp +contextual -dsimp only [↓SD, SU, simprocAttr]) (by simp +contextual -dsimp only [↓SD, SU, simprocAttr]))) ?_
  rintro ⟨j, u⟩ hj
  simp only at hj
  by_cases hlt : j < n.kids.length
  ·have e2 := getD_map av n.kids j .top hlt
   have hkj := hks _ (List.getElem_mem hlt)
   have ht : n.kids.take (j + 1) = n.kids.take j ++ [n.kids[j]] := List.take_succ_eq_append_getElem hlt
   obtain ⟨m, hm⟩ : ∃ m : Nat, n.kids[j] = m := ⟨n.kids[j].toNat, by omega⟩
   rw [hm] at e2 hkj ht
   have C2 := ih m (by omega) (by omega)
   have hk2 : (n.kids.take j).length = j := by simp; omega
   have ht2 : List.take j (((n.kids.take j).map fun k => BD (phd l) (BK l) f k.toNat).map av) = ((n.kids.take j).map fun k => BD (phd l) (BK l) f k.toNat).map av := List.take_of_length_le (by simp; omega)
   simp +contextual -dsimp only [↓SD, SU, simprocAttr, Aa, hlt, e2, Af]
   refine Ae _ C2 ?_
   simp +contextual -dsimp only [↓SD, SU, simprocAttr, Aa, hlt, C7, E0, D6, Cg, E1, GZ, hk2, ht2]
   refine ⟨⟨by omega, by unfold maxLen; omega⟩, fun u' => ⟨by omega, Ah.le ⟨(j + 1, u'), ⟨hlt, (by first | omega | (simp only; omega))⟩, rfl⟩ (by simp +contextual -dsimp only [↓SD, SU, simprocAttr, Int.natCast_add]) (by simp +contextual -dsimp only [↓SD, SU, simprocAttr, ht, List.map_append, Int.toNat_natCast])⟩⟩
  ·obtain rfl : j = n.kids.length := by omega
   simp +contextual -dsimp only [↓SD, SU, simprocAttr, Aa, Nat.lt_irrefl, Ab, List.take_length, KY]
   rw [El, List.take_of_length_le (by simp)]

end Go.Proofs.YteeiaaogmjbcjaaGreat
set_option linter.unusedVariables false
set_option maxRecDepth 100000
namespace Go.Proofs.YteeiaaogmjbcjaaGreat
open Go.Proofs.YteeiaaogmjbcjaaGreat.Av

theorem Pv : Tryz.prog.follows .mixedOrders = true := by kernel_rfl

def Ex : Ir Tryz.prog 32 [(20,20)] [] 2 := ⟨_, _, Tryz.func32, Pv, by kernel_rfl, Ay [] Tryz.progTables (by conv => lhs; cbv) (by kernel_rfl)⟩
end Go.Proofs.YteeiaaogmjbcjaaGreat
set_option linter.unusedVariables false
set_option maxRecDepth 100000
namespace Go.Proofs.YteeiaaogmjbcjaaGreat
open Go.Proofs.YteeiaaogmjbcjaaGreat.Av

theorem Ue : Tryz.prog.follows .mixedOrders = true := by kernel_rfl

def CX : Ir Tryz.prog 30 [(89, 7777)] [9999] 3 := ⟨_, _, Tryz.func30, Ue, by kernel_rfl, Ay [] Tryz.progTables (by conv => lhs; cbv) (by kernel_rfl)⟩
end Go.Proofs.YteeiaaogmjbcjaaGreat
