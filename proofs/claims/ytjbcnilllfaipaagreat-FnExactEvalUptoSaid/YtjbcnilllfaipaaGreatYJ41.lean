/-
 A CONTRACT WHOSE RESULT LIES IN ROWS OF ITS OWN, as one whose result is read for good. Conditions: none.
-/
import Derived.Test.YtjbcnilllfaipaaGreatYAvSimp
import Derived.Test.YtjbcnilllfaipaaGreatRows
import Derived.Test.YtjbcnilllfaipaaGreatYJ00
import Derived.Test.YtjbcnilllfaipaaGreatProg
import Derived.Test.YtjbcnilllfaipaaGreatYAvDraw
import Derived.Test.YtjbcnilllfaipaaGreatYJ06
import Derived.Test.YtjbcnilllfaipaaGreatYJ29
import Derived.Test.YtjbcnilllfaipaaGreatYEvE
import Derived.Test.YtjbcnilllfaipaaGreatYPgmW4
import Derived.Test.YtjbcnilllfaipaaGreatYEvJ
import Derived.Test.YtjbcnilllfaipaaGreatYJ10
import Derived.Test.YtjbcnilllfaipaaGreatYJ21
set_option linter.unusedVariables false
namespace Go.Proofs.YtjbcnilllfaipaaGreat.Av
open Go.RowKit

theorem SZ {S : Nat → Prop} {w : World} {μ : Mu} {vs : List Value} {a b : List AV} (h : VRs S w μ vs (a ++ .Ar :: b)) : VRs S w μ vs (a ++ .sl [] :: b) := by
 refine ⟨by rw [h.1]; simp, fun i v x p q => ?_⟩
 by_cases hi : i = a.length
 ·subst hi
  rw [List.getElem?_append_right (Nat.le_refl _), Nat.sub_self] at q
  cases q
  have h0 := h.2 a.length v .Ar p (by rw [List.getElem?_append_right (Nat.le_refl _), Nat.sub_self]; rfl)
  cases h0
  exact .sl0 none 0 (Nat.zero_le _)
 ·refine h.2 i v x p ?_
  rw [List.getElem?_append] at q ⊢
  split
  ·rename_i hlt; rw [if_pos hlt] at q; exact q
  ·rename_i hlt
   rw [if_neg hlt] at q
   obtain ⟨k, hk⟩ : ∃ k, i - a.length = k + 1 := ⟨i - a.length - 1, by omega⟩
   rw [hk] at q ⊢
   exact q
end Go.Proofs.YtjbcnilllfaipaaGreat.Av
set_option linter.unusedVariables false
set_option linter.unusedVariables false
namespace Go.Proofs.YtjbcnilllfaipaaGreat
open Go.RowKit Go.Proofs.YtjbcnilllfaipaaGreat.Ml

structure Outcome where
 kind : Int
 n : Int
 trace : List ByteArray
 steps : Int
 deriving DecidableEq, Inhabited

def Outcome.rep (S : Nat → Prop) (w : World) (cs : List Value) (x : Outcome) : Prop := ∃ v2, cs = [Value.int .i64 x.kind, Value.int .i64 x.n, v2, Value.int .i64 x.steps] ∧ (-9223372036854775808 ≤ x.kind ∧ x.kind ≤ 9223372036854775807) ∧ (-9223372036854775808 ≤ x.n ∧ x.n ≤ 9223372036854775807) ∧ (-9223372036854775808 ≤ x.steps ∧ x.steps ≤ 9223372036854775807) ∧ Dj S w v2 x.trace
instance : Rep Outcome where
 n := 4
 rep := Outcome.rep
 len := by rintro _ _ _ _ ⟨v2, rfl, _⟩; rfl
 carry := by rintro _ _ _ _ _ _ ⟨v2, rfl, h0, h1, h2, h3⟩ hS hw; exact ⟨v2, rfl, h0, h1, h2, h3.carry hS hw⟩
theorem Outcome.form {S : Nat → Prop} {w : World} {cs : List Value} {x : Outcome} (h : Rep.rep S w cs x) : ∃ a2 c2, cs = [Value.int .i64 x.kind, Value.int .i64 x.n, Value.slice a2 x.trace.length c2, Value.int .i64 x.steps] ∧ (-9223372036854775808 ≤ x.kind ∧ x.kind ≤ 9223372036854775807) ∧ (-9223372036854775808 ≤ x.n ∧ x.n ≤ 9223372036854775807) ∧ (-9223372036854775808 ≤ x.steps ∧ x.steps ≤ 9223372036854775807) ∧ Dj S w (.slice a2 x.trace.length c2) x.trace := by
 obtain ⟨v2, rfl, h0, h1, h2, h3⟩ := h
 obtain ⟨a2, c2, rfl⟩ := h3.form
 exact ⟨a2, c2, rfl, h0, h1, h2, h3⟩
instance : Ad Outcome := ⟨fun x => Ad.bulk x.kind + Ad.bulk x.n + Ad.bulk x.trace + Ad.bulk x.steps + 1, fun _ => by omega⟩

end Go.Proofs.YtjbcnilllfaipaaGreat
set_option linter.unusedVariables false
set_option maxRecDepth 100000
namespace Go.Proofs.YtjbcnilllfaipaaGreat
open Go.Proofs.YtjbcnilllfaipaaGreat.Av

theorem SE : Tryz.prog.follows .mixedOrders = true := by kernel_rfl

def HE : Ir Tryz.prog 27 [] [] 2 := ⟨_, _, Tryz.func27, SE, by kernel_rfl, Ag [] Tryz.progTables (by conv => lhs; cbv) (by kernel_rfl)⟩
end Go.Proofs.YtjbcnilllfaipaaGreat
set_option linter.unusedVariables false
set_option linter.unusedSimpArgs false
set_option maxRecDepth 100000
set_option linter.unusedVariables false
set_option maxRecDepth 100000
namespace Go.Proofs.YtjbcnilllfaipaaGreat
open Go.Proofs.YtjbcnilllfaipaaGreat.Av

theorem SF : Tryz.prog.follows .mixedOrders = true := by kernel_rfl

def HG : Ir Tryz.prog 9 [] [] 2 := ⟨_, _, Tryz.func9, SF, by kernel_rfl, Ag [] Tryz.progTables (by conv => lhs; cbv) (by kernel_rfl)⟩
end Go.Proofs.YtjbcnilllfaipaaGreat
set_option linter.unusedVariables false
set_option linter.unusedSimpArgs false
set_option maxRecDepth 100000
namespace Go.Proofs.YtjbcnilllfaipaaGreat
open Go.RowKit Go.Proofs.YtjbcnilllfaipaaGreat.Av Go.Proofs.YtjbcnilllfaipaaGreat.Ml
open Go.Proofs.YtjbcnilllfaipaaGreat.Av.AVal (av)

instance : AVal Outcome := ⟨fun x => .agg [.int .i64 x.kind, .int .i64 x.n, .sl (x.trace.map av), .int .i64 x.steps], 4, fun _ => rfl, fun _ => rfl, fun x y hy => by
 simp only [AV.cells, List.mem_cons, List.not_mem_nil, or_false] at hy
 rcases hy with rfl | rfl | rfl | rfl <;> first | exact Ac.int _ _ | exact Ac.str _ | exact Ac.bool _ | exact Aq x.trace, fun _ _ => rfl, fun x y hy => by
 simp only [AV.cells, List.mem_cons, List.not_mem_nil, or_false] at hy
 rcases hy with rfl | rfl | rfl | rfl <;> rfl⟩
theorem A4 (x : Outcome) : av x = .agg [.int .i64 x.kind, .int .i64 x.n, .sl (x.trace.map av), .int .i64 x.steps] := eqq rfl
instance : FF Outcome := ⟨fun {S w cs y} h => by
 obtain ⟨v2, rfl, h0, h1, h3, r2⟩ := h
 exact VRs.cons (.int _ _ h0.1 h0.2) (VRs.cons (.int _ _ h1.1 h1.2) (VRs.cons (Ej r2) (VRs.cons (.int _ _ h3.1 h3.2) (VRs.nil))))⟩

end Go.Proofs.YtjbcnilllfaipaaGreat
set_option linter.unusedVariables false
set_option linter.unusedSimpArgs false
namespace Go.Proofs.YtjbcnilllfaipaaGreat
open Go.RowKit Go.Proofs.YtjbcnilllfaipaaGreat.Av
open Go.Proofs.YtjbcnilllfaipaaGreat.Av.AVal (av)
open AVal (av)
open OVal (ov oh on)

theorem Af.Aci {s : St} {T : St → Prop} (k : Nat) {b : Box} (hb : Aw s.hp k = some b) (h : Af ⟨s.fr, (k, ⟨b.ver, b.frz, b.ty, b.esz, b.es.map (AV.pur s.hp)⟩) :: s.hp⟩ T) : Af s T := by
 refine ⟨?_⟩
 rintro E nt a w ⟨hd, hn, S, μ, hw, hf⟩
 have hget' : ∀ j bj, Aw ((k, (⟨b.ver, b.frz, b.ty, b.esz, b.es.map (AV.pur s.hp)⟩ : Box)) :: s.hp) j = some bj → ∃ bo, Aw s.hp j = some bo ∧ bo.ver = bj.ver ∧ bo.frz = bj.frz := fun j bj hj => by
  simp only [Aw] at hj
  split at hj
  ·rename_i e; subst e; cases hj; exact ⟨b, hb, rfl, rfl⟩
  ·exact ⟨bj, hj, rfl, rfl⟩
 refine h.run E nt a w ⟨hd, hn, S, μ, ⟨hw.ext, hw.lt, hw.base, hw.new, hw.fresh, fun j bj hj => ?_, ?_, hw.le⟩, hf⟩
 ·simp only [Aw] at hj
  split at hj
  ·rename_i e; subst e; cases hj
   obtain ⟨B0, h0, hz0, hh⟩ := hw.box k b hb
   refine ⟨B0, h0, hz0, ?_⟩
   cases hbl : B0.blk with
   | none => rw [hbl] at hh; simp only at hh ⊢; rw [hh, List.map_nil]
   | some g =>
    rw [hbl] at hh
    obtain ⟨a1, a2, a3, cu, a4, a5, a6, a7, a8⟩ := hh
    have hok : ∀ e ∈ b.es, e.ok = true := fun e he => by
     by_cases hq : e.isAgg = true
     ·simp [AV.ok, hq]
     ·have : e.cells = [e] := by cases e <;> first | rfl | (simp [AV.isAgg] at hq)
      simp [AV.ok, (a8.1 e he).2 e (by rw [this]; simp)]
    exact ⟨a1, a2, a3, cu, a4, a5, a6, by simpa using a7, a8.pur hw hok⟩
  ·exact hw.box j bj hj
 ·intro j j' bj bj' Bj Bj' g hj hj' hne hf1 hf2 hBj hBj' hbl
  obtain ⟨bo, g1, g2, g3⟩ := hget' j bj hj
  obtain ⟨bo', g1', g2', g3'⟩ := hget' j' bj' hj'
  rw [← g2] at hBj; rw [← g2'] at hBj'
  exact hw.apart j j' bo bo' Bj Bj' g g1 g1' hne (g3.trans hf1) (g3'.trans hf2) hBj hBj' hbl
theorem Qb {P : Go.Program} {f : FuncId} {args : List AV} {r r' : AV} (h : Ap P f args r) (hr : ∀ S w v, VR S w mu0 v r → VR S w mu0 v r') : Ap P f args r' := ⟨h.1, h.2.1, fun S w vs h1 h2 => (h.2.2 S w vs h1 h2).mono fun e w' ⟨v, he, hv, hb⟩ => ⟨v, he, hr _ _ _ hv, hb⟩⟩
end Go.Proofs.YtjbcnilllfaipaaGreat
set_option linter.unusedVariables false
set_option linter.unusedSimpArgs false
set_option maxRecDepth 100000
namespace Go.Proofs.YtjbcnilllfaipaaGreat
open Go.RowKit Go.Proofs.YtjbcnilllfaipaaGreat.Av Go.Proofs.YtjbcnilllfaipaaGreat.Ml
open Go.Proofs.YtjbcnilllfaipaaGreat.Av.AVal (av)

theorem Qa {P : Go.Program} {f : FuncId} {a b : List AV} {hp : Hp} {Post : AV → Hp → Prop} (h : Ay P f (a ++ .sl [] :: b) hp Post) : Ay P f (a ++ .Ar :: b) hp Post := ⟨h.1, fun S w μ vs h1 h2 => h.2 S w μ vs h1 (SZ h2)⟩
theorem YD {ty : List BP} {l : List Node} {B M b : Nat} (hp : Cb l B) (hM : M ≤ 100000) : ∀ f, EvS ty l B M b f
 | 0 => fun i e st tv rv hc => by have := hc.hf; omega
 | f + 1 => WH hp hM (fun st h => h.inl) (YD hp hM f)
def Wl (r : Option EV × ES) : Outcome := match r.1 with
 | some _ => ⟨1, 0, r.2.tr, r.2.steps⟩
 | none => ⟨r.2.stop, if r.2.stop = 2 then r.2.n else 0, r.2.tr, r.2.steps⟩
def Fa (m : Int) : Nat := (max 0 (min m 20000)).toNat
def DT (p : Program) (inp : List Int) (m : Int) : Outcome := if FJ p = true then Wl (An p.nodes (Fa m) (Fa m + 1) 0 .nil ⟨0, inp, [], [], 0, 0⟩) else ⟨0, 0, [], 0⟩
theorem Acx (m : Int) : Ap Tryz.prog 19 [.int .i64 m] (.int .i64 (Fa m)) := by
 refine Fh.F rfl (by simp; exact BL _) (BL _) ?_
 unfold Fa
 by_cases h1 : m < 0
 ·have g1 := eq_true h1
  have e : ((max 0 (min m 20000)).toNat : Int) = 0 := by omega
  simp +contextual -dsimp (maxSteps := 2000000) only [↓SD, SU, simprocAttr, Fh, g1, e]
 ·have g1 := eq_false h1
  by_cases h2 : 20000 < m
  ·have g2 := eq_true h2
   have e : ((max 0 (min m 20000)).toNat : Int) = 20000 := by omega
   simp +contextual -dsimp (maxSteps := 2000000) only [↓SD, SU, simprocAttr, Fh, g1, g2, e]
  ·have g2 := eq_false h2
   have e : ((max 0 (min m 20000)).toNat : Int) = m := by omega
   simp +contextual -dsimp (maxSteps := 2000000) only [↓SD, SU, simprocAttr, Fh, g1, g2, e]
set_option maxHeartbeats 4000000 in
theorem Th (p : Program) (B : Nat) (inp : List Int) (m : Int) (hx : Ad.bulk p ≤ 1099511627776) (hp : FJ p = true → Cb p.nodes B) (hi : ∀ x ∈ inp, I64 x) (hl : inp.length ≤ 1099511627776) : Ap Tryz.prog 5 [av p, .sl (inp.map av), .int .i64 m] (av (DT p inp m)) := by
 have CO := MH p hx
 rw [Aj] at CO
 cases hb : FJ p with
 | false =>
  rw [hb] at CO
  rw [show DT p inp m = ⟨0, 0, [], 0⟩ by unfold DT; rw [if_neg (by rw [hb]; simp)]]
  refine Qb (r := .agg [.int .i64 0, .int .i64 0, .Ar, .int .i64 0]) (GN.F rfl (by simp; exact ⟨AVal.clean p, Aq inp, BL _⟩) (Ac.agg (by simp; exact ⟨BL _, Ac.Ar, BL _⟩)) ?_) (fun S w v h => ?_)
  ·simp +contextual -dsimp (maxSteps := 2000000) only [↓SD, SU, simprocAttr, GN, Aj]
   intro v6
   refine Ab _ CO ?_
   simp +contextual -dsimp (maxSteps := 2000000) only [↓SD, SU, simprocAttr]
  ·rw [A4]
   exact Av.VR.AbO (off := 2) (y := .sl []) h rfl (fun x u hx hu => by cases hx; cases hu; exact .sl0 none 0 (Nat.zero_le _))
 | true =>
  rw [hb] at CO
  have CMst := Acx m
  have hM : Fa m ≤ 20000 := by unfold Fa; omega
  have e0 : DT p inp m = Wl (An p.nodes (Fa m) (Fa m + 1) 0 .nil ⟨0, inp, [], [], 0, 0⟩) := by unfold DT; rw [if_pos hb]
  rw [e0]
  clear e0
  have hP := hp hb
  have hst : ES.ok p.nodes B (Fa m) ⟨0, inp, [], [], 0, 0⟩ := ⟨Nat.zero_le _, Nat.le_refl _, Nat.le_refl _, hi, (fun v hv => by cases hv), (fun s hs => by cases hs), (show I64 0 from (by unfold I64; decide)), hl⟩
  refine GN.F rfl (by simp; exact ⟨AVal.clean p, Aq inp, BL _⟩) (AVal.clean _) ?_
  generalize Fa m = M at *
  have CE := fun b tv rv => YD (ty := p.types) (b := b) hP (by omega : M ≤ 100000) (M + 1) 0 .nil ⟨0, inp, [], [], 0, 0⟩ tv rv ⟨hP.nodes.one, (by rw [EE.ok]; trivial), Nat.zero_le _, hst, rfl, (by simp)⟩
  have hnp : ∀ hp, (inp.map (av : Int → AV)).map (AV.pur hp) = inp.map av := fun hp => AA _ hp
  have hti : List.take inp.length (inp.map (av : Int → AV)) = inp.map av := List.take_of_length_le (by simp)
  simp +contextual -dsimp (maxSteps := 2000000) only [↓SD, SU, simprocAttr, GN, Aj]
  intro v6
  refine Ab _ CO ?_
  simp +contextual -dsimp (maxSteps := 2000000) only [↓SD, SU, simprocAttr, Aa, hti, hnp]
  intro v16
  refine ⟨⟨fun x hx => by obtain ⟨y, _, rfl⟩ := List.mem_map.1 hx; rfl, by omega, by unfold maxLen; omega⟩, fun v18 => ?_⟩
  refine Ab _ CMst ?_
  simp +contextual -dsimp (maxSteps := 2000000) only [↓SD, SU, simprocAttr, Aa, hti, hnp]
  intro b
  refine Me (Af.MZ 60 0 5 61 9 1 rfl rfl Nat.zero_lt_one rfl (by decide) fun tv => Af.MZ 60 0 6 62 55 5 rfl rfl Nat.zero_lt_one rfl (by decide) fun rv => Af.le (t := ⟨[(6, .ptr 6 v6 0 0), (7, .ptr 60 b 0 0)], [(6, ⟨v6, false, 30, 4, [.agg [.int .i64 0, .int .i64 0, .Ar, .int .i64 0]]⟩), (60, mE p.types p.nodes M b tv rv ⟨0, inp, [], [], 0, 0⟩), (61, ⟨tv, false, 9, 1, []⟩), (62, ⟨rv, false, 55, 5, []⟩)]⟩) ?_ (by simp +contextual -dsimp only [↓SD, SU, simprocAttr]) (by simp +contextual -dsimp only [↓SD, SU, simprocAttr, mE]))
  have CE' : Ay Tryz.prog 20 ([.ptr 60 b 0 0, .int .i64 0] ++ .sl [] :: []) (mH p.types p.nodes M b tv rv ⟨0, inp, [], [], 0, 0⟩) _ := CE b tv rv
  have CE' := Qa CE'
  clear CE CO CMst
  generalize An p.nodes M (M + 1) 0 .nil ⟨0, inp, [], [], 0, 0⟩ = R at *
  unfold mH mE at CE'
  unfold mE
  simp +contextual -dsimp (maxSteps := 2000000) only [↓SD, SU, simprocAttr]
  refine Ae [60, 61, 62] CE' (by simp +contextual -dsimp only [↓SD, SU, simprocAttr]) ?_
  rintro r hp' ⟨tv1, rv1, rfl, hr⟩
  obtain ⟨z1, z2, z3, z4, z5, z6, rfl, p4, p5, o4, o5⟩ := Bz hr
  obtain ⟨oo, S1⟩ := R
  have ht : List.take S1.tr.length (S1.tr.map (av : ByteArray → AV)) = S1.tr.map av := List.take_of_length_le (by simp)
  have hnt : ∀ hp, (S1.tr.map (av : ByteArray → AV)).map (AV.pur hp) = S1.tr.map av := fun hp => AA _ hp
  unfold mH mE Wl
  dsimp only
  cases oo with
  | some u =>
   have hz : z6 = true := by
    have h2 : AV.tup [.agg [.int .i64 z1, .int .i64 z2, .str z3, z4, z5], .bool z6] = .tup [av u, .bool true] := hr
    have h3 := AV.tup.inj h2
    simp at h3
    exact h3.2
   subst hz
   rw [A4]
   simp +contextual -dsimp (maxSteps := 2000000) only [↓SD, SU, simprocAttr, p4, p5, o4, o5, ht, hnt, Aa]
  | none =>
   have hz : z6 = false := by
    have h2 : AV.tup [.agg [.int .i64 z1, .int .i64 z2, .str z3, z4, z5], .bool z6] = .tup [zV, .bool false] := hr
    have h3 := AV.tup.inj h2
    simp at h3
    exact h3.2
   subst hz
   rw [A4]
   by_cases h2 : S1.stop = 2
   ·have g2 := eq_true h2
    rw [if_pos h2]
    simp +contextual -dsimp (maxSteps := 2000000) only [↓SD, SU, simprocAttr, p4, p5, o4, o5, ht, hnt, Aa, g2]
   ·have g2 := eq_false h2
    rw [if_neg h2]
    simp +contextual -dsimp (maxSteps := 2000000) only [↓SD, SU, simprocAttr, p4, p5, o4, o5, ht, hnt, Aa, g2]
end Go.Proofs.YtjbcnilllfaipaaGreat
set_option linter.unusedVariables false
set_option linter.unusedSimpArgs false
namespace Go.Proofs.YtjbcnilllfaipaaGreat
open Go.RowKit Go.Proofs.YtjbcnilllfaipaaGreat.Av Go.Proofs.YtjbcnilllfaipaaGreat.Ml
open Go.Proofs.YtjbcnilllfaipaaGreat.Av.AVal (av)

theorem Aar : ∀ {ks : List Px}, (∀ k ∈ ks, k.rt) → Px.rts ks
 | [], _ => by rw [Px.rts]; trivial
 | t :: ts, h => by rw [Px.rts]; exact ⟨h t (by simp), Aar fun k hk => h k (by simp [hk])⟩
theorem AaJ {l : List Bp} {n : Bp} (h : Ec l n = true) : rtH ⟨n.kind, n.n, n.s⟩ n.kids.length := by
 unfold Ec at h
 unfold rtH
 split at h
 ·rename_i hk
  simp only [Bool.and_eq_true, decide_eq_true_eq] at h
  rcases hk with hk | hk
  ·exact .inl hk
  ·exact .inr (.inr (.inr (.inl ⟨hk, h.1.2, h.2, h.1.1⟩)))
 split at h
 ·rename_i hk; exact .inr (.inl hk)
 split at h
 ·rename_i hk
  simp only [Bool.and_eq_true, decide_eq_true_eq] at h
  exact .inr (.inr (.inl ⟨hk, h.1.2, h.1.1⟩))
 split at h
 ·rename_i hk
  simp only [Bool.and_eq_true, decide_eq_true_eq] at h
  exact .inr (.inr (.inr (.inr (.inr ⟨hk, h.1⟩))))
 split at h
 ·rename_i hk
  simp only [Bool.and_eq_true, decide_eq_true_eq] at h
  exact .inr (.inr (.inr (.inr (.inl ⟨hk, h.1.2, h.2, h.1.1⟩))))
 ·cases h
theorem IW {l : List Bp} (h : Ft l = true) : 1 ≤ l.length ∧ l.length ≤ 600 ∧ Fw (B8 l) l.length = true ∧ ∀ i, i < l.length → Ec l (l.getD i default) = true := by
 simp only [Ft, Bool.and_eq_true, decide_eq_true_eq] at h
 refine ⟨by omega, by omega, h.1.2, fun i hi => ?_⟩
 have := PF.1 h.2 i hi
 unfold Hq at this
 rw [Bool.and_eq_true] at this
 exact this.1
theorem UF {l : List Bp} (h : Ft l = true) : ∀ f i, i < l.length → l.length - i ≤ f → (Dc (phd l) (B8 l) f i).rt
 | 0, i, hi, hf => by omega
 | f + 1, i, hi, hf => by
  obtain ⟨h1, h2, h3, h4⟩ := IW h
  rw [Dc, Px.rt, List.length_map]
  refine ⟨AaJ (h4 i hi), Aar fun t ht => ?_⟩
  obtain ⟨k, hk, rfl⟩ := List.mem_map.1 ht
  have := GJ h3 hi hk
  exact UF h f k.toNat (by omega) (by omega)
theorem Ack {q : Pat} (h : Ft q.nodes = true) : (DY q).rt := UF h _ 0 (by have := (IW h).1; omega) (by omega)
theorem Q5 {l : List Bp} {B : Nat} (hs : ∀ i, (l.getD i default).s.size ≤ B) : ∀ f i, (Dc (phd l) (B8 l) f i).sok B
 | 0, i => by rw [Dc, Px.sok]; exact ⟨hs i, R5 fun k hk => by cases hk⟩
 | f + 1, i => by
  rw [Dc, Px.sok]
  refine ⟨hs i, R5 fun t ht => ?_⟩
  obtain ⟨k, hk, rfl⟩ := List.mem_map.1 ht
  exact Q5 hs f k.toNat
theorem O9 {H : Nat → Hd} {K : Nat → List Int} {n f g : Nat} (ih : ∀ a m, DV K n f a = some m → (Dc H K g a).cnt + a = m) : ∀ {ks : List Int} {a m : Nat}, D0 (DV K n f) ks a = some m → Px.KH (ks.map fun k => Dc H K g k.toNat) + a = m
 | [], a, m, h => by cases h; rw [List.map_nil, Px.KH]; omega
 | k :: ks, a, m, h => by
  unfold D0 at h
  split at h
  ·rename_i hk
   split at h
   ·rename_i m' hm'
    have h1 := ih _ _ hm'
    have h2 := O9 ih h
    rw [List.map_cons, Px.KH, hk, Int.toNat_natCast]
    omega
   ·cases h
  ·cases h
theorem Q6 {H : Nat → Hd} {K : Nat → List Int} {n : Nat} : ∀ (f a m : Nat), DV K n f a = some m → (Dc H K f a).cnt + a = m
 | 0, a, m, h => by cases h
 | f + 1, a, m, h => by
  unfold DV at h
  split at h
  ·rw [Dc, Px.cnt]
   have := O9 (H := H) (Q6 (H := H) f) h
   omega
  ·cases h
theorem AaM {q : Pat} (h : Ft q.nodes = true) : (DY q).cnt ≤ 600 := by
 obtain ⟨h1, h2, h3, h4⟩ := IW h
 have h5 := Q6 (H := phd q.nodes) _ _ _ (of_decide_eq_true h3)
 unfold DY
 rw [MR (fun i hi k hk => GJ h3 hi hk) q.nodes.length (q.nodes.length + 1) 0 (by omega) (by omega) (by omega)]
 omega
theorem AaK {q : List Bp} {x : Nat} (hx : Ad.bulk q ≤ x) (i : Nat) : (q.getD i default).s.size ≤ x := by
 by_cases hi : i < q.length
 ·have e : q.getD i default = q[i] := by simp [List.getD_eq_getElem?_getD, hi]
  rw [e]
  have h1 := AW (List.getElem_mem hi)
  have h2 : Ad.bulk q[i] = Ad.bulk q[i].kind + Ad.bulk q[i].n + Ad.bulk q[i].s + Ad.bulk q[i].kids + 1 := rfl
  have h4 : Ad.bulk q[i].s = q[i].s.size + 1 := rfl
  omega
 ·have e : q.getD i default = default := by simp [List.getD_eq_getElem?_getD, hi]
  rw [e]
  exact Nat.zero_le _
theorem MI {p : Program} (hx : Ad.bulk p ≤ 1099511627776) (hb : FJ p = true) : Cb p.nodes 1099511627776 := by
 obtain ⟨f1, f2, f3, f4, f5⟩ := Oo hx hb
 obtain ⟨q1, q2, q3, q4⟩ := Fs hx
 simp only [FJ, K0, Bool.and_eq_true, decide_eq_true_eq, List.all_eq_true] at hb
 obtain ⟨⟨⟨⟨⟨h1, h2⟩, h3⟩, h4⟩, h5⟩, h6⟩ := hb
 have hgd : ∀ i, i < p.nodes.length → p.nodes.getD i default ∈ p.nodes := fun i hi => by simp [List.getD_eq_getElem?_getD, hi]
 refine ⟨⟨f1, fun i hi k hk => GJ f3 hi hk, fun n hn => ?_, fun n hn => ?_, fun n hn q hq => ?_, fun i hi hk => ?_, by decide⟩, h4, h6, q2, by decide⟩
 ·have := AW hn
  exact (Du q2 hn).2.1
 ·have h := h4 n hn
  unfold AP at h
  split at h
  ·cases h
  rename_i h7
  split at h
  ·simp only [Bool.and_eq_true, decide_eq_true_eq] at h
   unfold I64; omega
  split at h
  ·unfold I64; omega
  by_cases h8 : n.kind = 3
  ·rw [if_pos (.inl h8)] at h
   unfold BK at h
   simp only [Bool.and_eq_true, decide_eq_true_eq] at h
   unfold I64; omega
  ·unfold I64; omega
 ·have hq2 := h6 n hn q hq
  refine ⟨Q5 (fun i => ?_) _ _, AaM hq2⟩
  have h8 := AW hq
  have h9 := (Du q2 hn).2.2.1
  have h10 : Ad.bulk q = Ad.bulk q.nodes + 1 := rfl
  exact AaK (by omega) i
 ·have h := h4 _ (hgd i hi)
  unfold AP at h
  split at h
  ·cases h
  rw [hk] at h
  simp only [Int.reduceEq, if_false, or_false, if_true, Bool.and_eq_true] at h
  have h7 := h.2
  unfold AE at h7
  unfold kd AF
  cases hc : (p.nodes.getD i default).kids with
  | nil => rw [hc] at h7; cases h7
  | cons k r =>
   rw [hc] at h7
   simp only [Bool.and_eq_true, decide_eq_true_eq] at h7
   simpa using h7.2
end Go.Proofs.YtjbcnilllfaipaaGreat
set_option linter.unusedVariables false
set_option maxRecDepth 100000
namespace Go.Proofs.YtjbcnilllfaipaaGreat
open Go.Proofs.YtjbcnilllfaipaaGreat.Av

theorem P5 : Tryz.prog.follows .mixedOrders = true := by kernel_rfl

def JC : Ir Tryz.prog 102 [(20,20)] [] 2 := ⟨_, _, Tryz.func102, P5, by kernel_rfl, Ag [] Tryz.progTables (by conv => lhs; cbv) (by kernel_rfl)⟩
end Go.Proofs.YtjbcnilllfaipaaGreat
set_option linter.unusedVariables false
set_option linter.unusedSimpArgs false
set_option maxRecDepth 100000
namespace Go.Proofs.YtjbcnilllfaipaaGreat
open Go.RowKit Go.Proofs.YtjbcnilllfaipaaGreat.Av Go.Proofs.YtjbcnilllfaipaaGreat.Ml
open Go.Proofs.YtjbcnilllfaipaaGreat.Av.AVal (av)

theorem UG (l : List Bp) (hk : ∀ i, i < l.length → ∀ k ∈ B8 l i, (i : Int) < k ∧ k < l.length) (hx : Ad.bulk l ≤ 1099511627776) : ∀ (f i : Nat), i < l.length → l.length - i ≤ f → Ap Tryz.prog 102 [.sl (l.map av), .int .i64 i] (av (Dc (phd l) (B8 l) f i)) := by
 intro f
 induction f with
 | zero => intro i hi hf; omega
 | succ f ih =>
  intro i hi hf
  have hl := Ao l
  have e := getD_map av l i .top hi
  have hs := (Ge hx i hi).1
  have hK : B8 l i = l[i].kids := by rw [B8, Ef hi]
  have hH : phd l i = ⟨l[i].kind, l[i].n, l[i].s⟩ := by rw [phd, Ef hi]
  have hg : Dc (phd l) (B8 l) (f + 1) i = .mk ⟨l[i].kind, l[i].n, l[i].s⟩ (l[i].kids.map fun k => Dc (phd l) (B8 l) f k.toNat) := by rw [Dc, hK, hH]
  have hks := hk i hi
  rw [hK] at hks
  refine JC.F rfl (by simp; exact ⟨Aq l, BL _⟩) (AVal.clean _) ?_
  rw [hg]
  clear hg hK hH
  generalize l[i] = n at *
  simp +contextual -dsimp only [↓SD, SU, simprocAttr, JC, Aa, hi, e, A8]
  intro w5 w
  refine PG (X := Nat × Nat) (fun x => ⟨[(0, .sl (l.map av)), (6, .ptr 20 w 0 0), (22, .sl (n.kids.map av)), (23, .int .i64 n.kids.length), (24, .int .i64 x.1)], [(20, ⟨w, false, 199, 4, [.agg [.int .i64 n.kind, .int .i64 n.n, .str n.s, .row 37 x.2 x.1]]⟩), (37, ⟨x.2, false, 167, 1, ((n.kids.take x.1).map fun k => Dc (phd l) (B8 l) f k.toNat).map av⟩)]⟩) (fun x => x.1 ≤ n.kids.length) (fun x => n.kids.length - x.1) (Af.MZ 20 0 3 37 167 1 rfl rfl Nat.zero_lt_one rfl (by decide) (fun v => Af.le ⟨(0, v), Nat.zero_le _, rfl⟩ (by simp +contextual -dsimp only [↓SD, SU, simprocAttr]) (by simp +contextual -dsimp only [↓SD, SU, simprocAttr]))) ?_
  rintro ⟨j, u⟩ hj
  simp only at hj
  by_cases hlt : j < n.kids.length
  ·have e2 := getD_map av n.kids j .top hlt
   have hkj := hks _ (List.getElem_mem hlt)
   have ht : n.kids.take (j + 1) = n.kids.take j ++ [n.kids[j]] := List.take_succ_eq_append_getElem hlt
   obtain ⟨m, hm⟩ : ∃ m : Nat, n.kids[j] = m := ⟨n.kids[j].toNat, by omega⟩
   rw [hm] at e2 hkj ht
   have C2 := ih m (by omega) (by omega)
   have hk2 : (n.kids.take j).length = j := by simp; omega
   have ht2 : List.take j (((n.kids.take j).map fun k => Dc (phd l) (B8 l) f k.toNat).map av) = ((n.kids.take j).map fun k => Dc (phd l) (B8 l) f k.toNat).map av := List.take_of_length_le (by simp; omega)
   simp +contextual -dsimp only [↓SD, SU, simprocAttr, Aa, hlt, e2, Bo]
   refine Ab _ C2 ?_
   simp +contextual -dsimp only [↓SD, SU, simprocAttr, Aa, hlt, Lz, Ady, NR, Xy, Sc, Aec, hk2, ht2]
   refine ⟨⟨by omega, by unfold maxLen; omega⟩, fun u' => ⟨by omega, Af.le ⟨(j + 1, u'), ⟨hlt, (by first | omega | (simp only; omega))⟩, rfl⟩ (by simp +contextual -dsimp only [↓SD, SU, simprocAttr, Int.natCast_add]) (by simp +contextual -dsimp only [↓SD, SU, simprocAttr, ht, List.map_append, Int.toNat_natCast])⟩⟩
  ·obtain rfl : j = n.kids.length := by omega
   simp +contextual -dsimp only [↓SD, SU, simprocAttr, Aa, Nat.lt_irrefl, AA, List.take_length, H9]
   rw [Nx, List.take_of_length_le (by simp)]

end Go.Proofs.YtjbcnilllfaipaaGreat
