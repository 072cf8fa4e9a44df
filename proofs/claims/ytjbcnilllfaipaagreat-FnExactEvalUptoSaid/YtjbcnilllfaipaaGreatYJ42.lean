/-
 THE PROGRAM'S EVALUATOR: patterns. Conditions: none. Printed by evb.py.
-/
import Derived.Test.YtjbcnilllfaipaaGreatYEvA
import Derived.Test.YtjbcnilllfaipaaGreatYJ41
import Derived.Test.YtjbcnilllfaipaaGreatYJ38
import Derived.Test.YtjbcnilllfaipaaGreatProg
import Derived.Test.YtjbcnilllfaipaaGreatYAvDraw
set_option linter.unusedVariables false
set_option linter.unusedSimpArgs false
set_option maxRecDepth 100000
namespace Go.Proofs.YtjbcnilllfaipaaGreat
open Go.RowKit Go.Proofs.YtjbcnilllfaipaaGreat.Av Go.Proofs.YtjbcnilllfaipaaGreat.Ml
open Go.Proofs.YtjbcnilllfaipaaGreat.Av.AVal (av)

def Z6 (ps : List Pat) (a : EV) (e : EE) (k : Nat) : Prop := k ≤ ps.length ∧ Gr (ps.map DY) a e 0 = Gr ((ps.drop k).map DY) a e k
theorem RA {ps : List Pat} {a : EV} {e : EE} {k : Nat} (h : Z6 ps a e k) (hk : k < ps.length) : Gr (ps.map DY) a e 0 = match NL (DY ps[k]) a e with
  | some e' => some (k, e')
  | none => Gr ((ps.drop (k + 1)).map DY) a e (k + 1) := by
 rw [h.2, List.drop_eq_getElem_cons hk, List.map_cons, Gr]
 cases NL (DY ps[k]) a e <;> rfl
theorem AbK {ps : List Pat} {a : EV} {e : EE} {k : Nat} (h : Z6 ps a e k) (hk : k < ps.length) (hh : (EL (DY ps[k]) a e).2 = true) : Gr (ps.map DY) a e 0 = some (k, (EL (DY ps[k]) a e).1) := by
 rw [RA h hk, NL, if_pos hh]
theorem ZX {ps : List Pat} {a : EV} {e : EE} {k : Nat} (h : Z6 ps a e k) (hk : k < ps.length) (hh : (EL (DY ps[k]) a e).2 = false) : Z6 ps a e (k + 1) := by
 refine ⟨hk, ?_⟩
 rw [RA h hk, NL, if_neg (by rw [hh]; decide)]
theorem AbL {ps : List Pat} {a : EV} {e : EE} {k : Nat} (h : Z6 ps a e k) (hk : ¬ k < ps.length) : Gr (ps.map DY) a e 0 = none := by
 rw [h.2, List.drop_of_length_le (by omega)]; rfl
theorem X3 {l : List Node} {n : Node} (h : AP BK l n = true) (hk : n.kind = 13) : n.kids.length = n.As.length + 1 := by
 unfold AP at h
 split at h
 ·cases h
 rw [hk] at h
 simp only [Int.reduceEq, if_false, or_false, if_true, Bool.and_eq_true, decide_eq_true_eq] at h
 omega
set_option maxHeartbeats 8000000 in
theorem AdV {l : List Node} {B M b f : Nat} (hp : Cb l B) (hM : M ≤ 100000) (hE : EvI l B M b f) (i : Nat) (e : EE) (a : EV) (st : ES) (tv : Nat) (n : Int) (vs : List Nat) (xs : List AV) (xe xa : AV) (hc : M1 l B M f i e a st) (hR : Dz l vs (M - st.steps) st.refs xs) (ie : IRE l vs (M - st.steps) e xe) (ia : IR l vs (M - st.steps) a xa) (hk : (l.getD i default).kind = 13) : Ay Tryz.prog 57 [.ptr 60 b 0 0, av (AD l i), xa, xe] (iH b tv M st n vs xs) (Di l vs b M (Cf l (l.getD i default) (fun j e st => An l M f (kd l i j) e st) (fun i' e st => An l M f (kd l i' 0) e st) e a st)) := by
 refine Ah.H rfl ?_
 have xo := ie.one
 have xp := fun hp => ie.AR hp
 have xA := fun hp => ie.Bv hp
 have ao := ia.one
 have ap := fun hp => ia.AR hp
 have aA := fun hp => ia.Bv hp
 have ac := ia.cells
 have xc := ie.cells
 have hsM := hc.hst.steps
 have hcf := hc.hf
 have hcl := hc.hl
 have hst0 : ∀ {P : Prop}, st.stop = 2 → P := fun h => absurd (hc.h0.symm.trans h) (by decide)
 have hgo : ∀ (j : Nat) (e' : EE) (xe' : AV), e'.ok l B st.refs.length (700 * (st.steps + 1)) → e'.len ≤ 700 * (st.steps + 1) → xe'.one = true → (∀ hp, xe'.AR hp = xe') → (st.steps < M → IRE l vs (M - (st.steps + 1)) e' xe') → Ay Tryz.prog 24 [.ptr 60 b 0 0, av (AD l (kd l i j)), xe'] (iH b tv M st n vs xs) (Di l vs b M (An l M f (kd l i j) e' st)) := fun j e' xe' h1 h2 h3 h4 h5 => hE (kd l i j) e' st tv n vs xs xe' ⟨hp.nodes.Bt hc.hi j, h1, h2, hc.hst, hc.h0, hcf⟩ hR h3 h4 h5
 have hee : e.ok l B st.refs.length (700 * (st.steps + 1)) := EE.Ak (Nat.le_refl _) (by omega) hc.he
 have haa : a.ok l B st.refs.length (700 * (st.steps + 1)) := EV.Ak (Nat.le_refl _) (by omega) hc.ha
 have hs := hp.nodes.str _ (hp.nodes.mem hc.hi)
 have hn := fun h => Il hp hc.hi h
 have hA := fun j hj => G6 l i j hj
 have hT := BC 0 vs xs
 have hTT := Bh vs xs 0
 have hT1 := Bf hT 60
 have htree := B3 (fun i hi k hk => hp.nodes.kids i hi k hk) hc.hi
 have hmem := hp.nodes.mem hc.hi
 rw [htree, DU, BE]
 rw [BE] at hgo
 have hnb := X3 (hp.node _ hmem) hk
 have hpat := hp.As _ hmem
 have hbulk := AW hmem
 have hps := (Du hp.bulk hmem).2.2.1
 have hpl := (Du hp.bulk hmem).2.2.2
 obtain ⟨T, hTe⟩ : ∃ T, T = Co 0 vs xs := ⟨_, rfl⟩
 rw [← hTe] at hT hTT hT1 hgo ⊢
 have hks : (List.map (fun k => AD l k.toNat) (AF l i)).length = (AF l i).length := List.length_map ..
 generalize hnd : l.getD i default = nd at *
 generalize List.map (fun k => AD l k.toNat) (AF l i) = ks at *
 have hkl : (AF l i).length = nd.As.length + 1 := by rw [← hnb]; unfold AF; rw [hnd]
 rw [show Cf l nd (fun j e st => An l M f (kd l i j) e st) (fun i' e st => An l M f (kd l i' 0) e st) e a st = (match Gr (nd.As.map DY) a e 0 with
  | some (j, e') => An l M f (kd l i (j + 1)) e' st
  | none => (none, st.raise (-1))) from (by unfold Cf; simp only [hk, Int.reduceEq, if_true, if_false] <;> (generalize Gr (nd.As.map DY) a e 0 = Q; obtain _ | ⟨j, e'⟩ := Q <;> rfl))]
 unfold wB
 simp +contextual -dsimp (maxSteps := 2000000) only [↓SD, SU, simprocAttr, Ah, hk, xo, xp, xA, xc, ao, ap, aA, ac, A7, BW, Bx, BA, Aa]
 refine Al (X := Nat) (fun k => ⟨[(0, .ptr 60 b 0 0), (1, .obj [.int .i64 13, .int .i64 nd.pos, .int .i64 nd.n, .str nd.s, .sl (ks.map av), .sl (nd.As.map av)]), (2, xa), (3, xe), (107, .sl (nd.As.map av)), (108, .int .i64 nd.As.length), (109, .int .i64 k)], (60, wB b tv M st n) :: (61, ⟨tv, false, 9, 1, st.tr.map av⟩) :: T⟩) (Z6 nd.As a e) (fun k => nd.As.length - k) 0 ⟨Nat.zero_le _, rfl⟩ (by simp +contextual -dsimp only [↓SD, SU, simprocAttr, xo, xp, xA, xc, ao, ap, aA, ac, A7, BW, Bx, BA, Aa]) ?_ ?_
 ·unfold wB
  simp +contextual -dsimp (maxSteps := 2000000) only [↓SD, SU, simprocAttr]
  exact (by repeat (first | exact hTT | exact AX hTT | refine Am ?_ hT (by decide)))
 intro k hj
 by_cases hlt : k < nd.As.length
 ·have e2 := getD_map (av : Pat → AV) nd.As k .top hlt
  have hq := hpat nd.As[k] (List.getElem_mem hlt)
  obtain ⟨p1, p2, p3, p4⟩ := IW hq
  have hqb := AW (List.getElem_mem hlt)
  have hqb2 : Ad.bulk nd.As[k] = Ad.bulk nd.As[k].nodes + 1 := rfl
  have C1 := UG nd.As[k].nodes (fun i hi k hk => GJ p3 hi hk) (by omega) nd.As[k].nodes.length 0 (by omega) (by omega)
  have C2 := AcA l vs (M - st.steps) (DY nd.As[k]) (Ack hq) a xa e xe ia ie
  rw [show Dc (phd nd.As[k].nodes) (B8 nd.As[k].nodes) nd.As[k].nodes.length 0 = DY nd.As[k] from rfl] at C1
  have hhit := AbK hj hlt
  have hmis := ZX hj hlt
  have hsok := hp.nodes.pat nd hmem nd.As[k] (List.getElem_mem hlt)
  have hok2 := NX hsok.1 haa hee
  have hlen2 := Mc (DY nd.As[k]) a e
  generalize hpe : nd.As[k] = p at *
  have g1 := eq_true (show (k : Int) < (nd.As.length : Int) by omega)
  unfold wB
  simp +contextual -dsimp (maxSteps := 2000000) only [↓SD, SU, simprocAttr, g1, hlt, Aa, e2, C9, xo, xp, xA, xc, ao, ap, aA, ac, A7, BW, Bx, BA, Aa]
  have hT0 : BN [] T = T := by unfold BN; simp
  intro v10
  refine Ab _ C1 ?_
  have qo := Sc (DY p)
  have qp := NR (DY p)
  have qA := Xy (DY p)
  have qc := Lz (DY p)
  simp +contextual -dsimp (maxSteps := 2000000) only [↓SD, SU, simprocAttr, xo, xp, xA, xc, ao, ap, aA, ac, A7, BW, Bx, BA, Aa, qo, qp, qA, qc]
  refine Ae [] C2 (by simp +contextual -dsimp only [↓SD, SU, simprocAttr]) ?_
  rintro r hp' ⟨rfl, y, e', rfl, hy, hres⟩
  have yo := hy.one
  have yp := fun hp => hy.AR hp
  have yA := fun hp => hy.Bv hp
  cases hB : (EL (DY p) a e).2
  ·simp +contextual -dsimp (maxSteps := 2000000) only [↓SD, SU, simprocAttr, hB, yo, yp, yA, hT0, xo, xp, xA, xc, ao, ap, aA, ac, A7, BW, Bx, BA, Aa]
   exact ⟨by omega, Af.le ⟨k + 1, ⟨hmis hB, by omega⟩, rfl⟩ (by simp +contextual -dsimp only [↓SD, SU, simprocAttr, Int.natCast_add]) (by simp +contextual -dsimp only [↓SD, SU, simprocAttr]; exact (by repeat (first | exact hTT | exact AX hTT | refine Am ?_ hT (by decide))))⟩
  ·have hq2 := hres hB
   rw [hhit hB]
   subst hq2
   dsimp only
   have hK : (List.map (av : Tr → AV) ks).getD ((k : Int) + 1).toNat .top = av (AD l (kd l i (k + 1))) := by
    rw [show ((k : Int) + 1).toNat = k + 1 by omega]
    exact hA (k + 1) (by omega)
   have hj1 := eq_true (show (-9223372036854775808 : Int) ≤ (k : Int) + 1 by omega)
   have hj2 := eq_true (show (k : Int) + 1 ≤ 9223372036854775807 by omega)
   have hj3 := eq_true (show (0 : Int) ≤ (k : Int) + 1 by omega)
   have hj4 := eq_true (show (k : Int) + 1 < (ks.length : Int) by omega)
   have C := hgo (k + 1) (EL (DY p) a e).1 y hok2 (by have := hsok.2; omega) yo yp (fun _ => hy.mono _ (by omega))
   simp +contextual -dsimp (maxSteps := 2000000) only [↓SD, SU, simprocAttr, hB, yo, yp, yA, hT0, hK, hj1, hj2, hj3, hj4, xo, xp, xA, xc, ao, ap, aA, ac, A7, BW, Bx, BA, Aa]
   refine Cl _ _ T hT C (by simp +contextual -dsimp only [↓SD, SU, simprocAttr, wB]) (by simp +contextual -dsimp only [↓SD, SU, simprocAttr]) (by repeat (first | exact hTT | exact AX hTT | refine Am ?_ hT (by decide))) ?_
   intro r2 hp2 hr2 R2 hRg2
   obtain ⟨so, sp, sq⟩ := hr2.form
   have hs2 := hr2.self
   simp +contextual -dsimp (maxSteps := 2000000) only [↓SD, SU, simprocAttr, so, sp, sq]
   refine Af.post hp2 ?_
   simp +contextual -dsimp (maxSteps := 2000000) only [↓SD, SU, simprocAttr, so, sp, sq]
   exact ⟨AX hs2, hr2⟩
 ·have g1 := eq_false (show ¬ (k : Int) < (nd.As.length : Int) by omega)
  rw [AbL hj hlt]
  unfold wB
  simp +contextual -dsimp (maxSteps := 2000000) only [↓SD, SU, simprocAttr, g1, xo, xp, xA, xc, ao, ap, aA, ac, A7, BW, Bx, BA, Aa]
  refine Ae [60] (JQ b tv M st n (-1)) (by simp +contextual -dsimp only [↓SD, SU, simprocAttr, wB]) ?_
  rintro r hp' ⟨rfl, rfl⟩
  unfold wB
  simp +contextual -dsimp (maxSteps := 2000000) only [↓SD, SU, simprocAttr, hT1]
  refine Af.post ((60, wB b tv M (st.raise (-1)) (-1)) :: (61, ⟨tv, false, 9, 1, st.tr.map av⟩) :: T) ?_
  unfold wB
  simp +contextual -dsimp (maxSteps := 2000000) only [↓SD, SU, simprocAttr, show (st.raise (-1)).inp = st.inp from rfl, show (st.raise (-1)).tr = st.tr from rfl, show (st.raise (-1)).steps = st.steps from rfl, show (st.raise (-1)).stop = 2 from rfl]
  refine ⟨(by repeat (first | exact hTT | exact AX hTT | refine Am ?_ hT (by decide))), ?_⟩
  exact Ca (st := st.raise (-1)) hTe hR (fun _ => rfl) (.inr ⟨rfl, rfl⟩)
end Go.Proofs.YtjbcnilllfaipaaGreat
set_option linter.unusedVariables false
set_option linter.unusedSimpArgs false
set_option maxRecDepth 100000
namespace Go.Proofs.YtjbcnilllfaipaaGreat
open Go.RowKit Go.Proofs.YtjbcnilllfaipaaGreat.Av Go.Proofs.YtjbcnilllfaipaaGreat.Ml
open Go.Proofs.YtjbcnilllfaipaaGreat.Av.AVal (av)

theorem QY {l : List Node} {n : Node} (h : AP BK l n = true) : n.kind = 1 ∨ n.kind = 2 ∨ n.kind = 3 ∨ n.kind = 4 ∨ n.kind = 5 ∨ n.kind = 6 ∨ n.kind = 7 ∨ n.kind = 8 ∨ n.kind = 9 ∨ n.kind = 10 ∨ n.kind = 11 ∨ n.kind = 12 ∨ n.kind = 13 ∨ n.kind = 14 ∨ n.kind = 15 ∨ n.kind = 16 ∨ n.kind = 17 ∨ n.kind = 18 ∨ n.kind = 19 := by
 unfold AP at h
 split at h
 ·cases h
 split at h
 ·omega
 split at h
 ·omega
 split at h
 ·omega
 split at h
 ·omega
 split at h
 ·omega
 split at h
 ·omega
 split at h
 ·omega
 split at h
 ·omega
 ·cases h
theorem AcT {l : List Node} {B M b f : Nat} (hp : Cb l B) (hM : M ≤ 100000) (hE : EvI l B M b f) : BeI l B M b f := fun i e a st tv n vs xs xe xa hc hR ie ia => by
 obtain ⟨k1, k2, k3, k4, k5, k6, k7, k8⟩ := hc.hk
 rcases QY (hp.node _ (hp.nodes.mem hc.hi)) with h | h | h | h | h | h | h | h | h | h | h | h | h | h | h | h | h | h | h
 ·exact absurd h k1
 ·exact absurd h k2
 ·exact absurd h k4
 ·exact absurd h k8
 ·exact absurd h k5
 ·exact Aen hp hM hE i e a st tv n vs xs xe xa hc hR ie ia h
 ·exact Aem hp hM hE i e a st tv n vs xs xe xa hc hR ie ia h
 ·exact absurd h k6
 ·exact Ael hp hM hE i e a st tv n vs xs xe xa hc hR ie ia h
 ·exact AdX hp hM hE i e a st tv n vs xs xe xa hc hR ie ia h
 ·exact AdW hp hM hE i e a st tv n vs xs xe xa hc hR ie ia h
 ·exact absurd h k3
 ·exact AdV hp hM hE i e a st tv n vs xs xe xa hc hR ie ia h
 ·exact AdU hp hM hE i e a st tv n vs xs xe xa hc hR ie ia h
 ·exact absurd h k7
 ·exact AdT hp hM hE i e a st tv n vs xs xe xa hc hR ie ia h
 ·exact AdS hp hM hE i e a st tv n vs xs xe xa hc hR ie ia h
 ·exact AdR hp hM hE i e a st tv n vs xs xe xa hc hR ie ia h
 ·exact AdQ hp hM hE i e a st tv n vs xs xe xa hc hR ie ia h
theorem Abs {l : List Node} {B M b f : Nat} (hp : Cb l B) (hM : M ≤ 100000) (hE : EvI l B M b f) : EvI l B M b (f + 1) := fun i e st tv n vs xs xe hc hR xo xp he => by
 by_cases hm : M ≤ st.steps
 ·rw [An, if_pos hm]
  exact ZL hp i e st tv n vs xs xe hc hR xo xp hm
 have hB := AcT hp hM hE
 have hnb := hp.node _ (hp.nodes.mem hc.hi)
 have hkn := fun h => Il hp hc.hi h
 have rest := fun hk hn => WJ hp hM hE hB i e st tv n vs xs xe hc hR xo xp he hm hk hn
 have hr : ∀ k : Int, (l.getD i default).kind = k → (0 < AJ k) → 0 < (AF l i).length := fun k hk ha => by
  have := hkn (by rw [hk]; omega)
  rw [hk] at this
  omega
 rcases QY hnb with h | h | h | h | h | h | h | h | h | h | h | h | h | h | h | h | h | h | h
 ·exact AcM hp hM i e st tv n vs xs xe hc hR xo xp he hm h
 ·exact AcL hp hM i e st tv n vs xs xe hc hR xo xp he hm h
 ·exact AcK hp hM i e st tv n vs xs xe hc hR xo xp he hm h
 ·exact AcJ hp hM hE i e st tv n vs xs xe hc hR xo xp he hm h
 ·exact AcI hp hM i e st tv n vs xs xe hc hR xo xp he hm h
 ·exact rest (by rw [h]; decide) (hr _ h (by decide))
 ·exact rest (by rw [h]; decide) (hr _ h (by decide))
 ·exact AcH hp hM hE i e st tv n vs xs xe hc hR xo xp he hm h
 ·exact rest (by rw [h]; decide) (hr _ h (by decide))
 ·exact rest (by rw [h]; decide) (hr _ h (by decide))
 ·exact rest (by rw [h]; decide) (hr _ h (by decide))
 ·exact Abr hp hM i e st tv n vs xs xe hc hR xo xp he hm h
 ·exact rest (by rw [h]; decide) (by
   have := X3 hnb h
   show 0 < (l.getD i default).kids.length
   omega)
 ·exact rest (by rw [h]; decide) (hr _ h (by decide))
 ·exact Abq hp hM hE i e st tv n vs xs xe hc hR xo xp he hm h
 ·exact rest (by rw [h]; decide) (hr _ h (by decide))
 ·exact rest (by rw [h]; decide) (hr _ h (by decide))
 ·exact rest (by rw [h]; decide) (hr _ h (by decide))
 ·exact rest (by rw [h]; decide) (hr _ h (by decide))
theorem YE {l : List Node} {B M b : Nat} (hp : Cb l B) (hM : M ≤ 100000) : ∀ f, EvI l B M b f
 | 0 => fun i e st tv n vs xs xe hc => absurd hc.hf (Nat.not_lt_zero _)
 | f + 1 => Abs hp hM (YE hp hM f)
end Go.Proofs.YtjbcnilllfaipaaGreat
set_option linter.unusedVariables false
set_option maxRecDepth 100000
namespace Go.Proofs.YtjbcnilllfaipaaGreat
open Go.Proofs.YtjbcnilllfaipaaGreat.Av

theorem Mm : Tryz.prog.follows .mixedOrders = true := by kernel_rfl

def Gy : Ir Tryz.prog 14 [(8, 7777)] [9999] 2 := ⟨_, _, Tryz.func14, Mm, by kernel_rfl, Ag [] Tryz.progTables (by conv => lhs; cbv) (by kernel_rfl)⟩
def GA : Ir Tryz.prog 15 [] [] 2 := ⟨_, _, Tryz.func15, Mm, by kernel_rfl, Ag [] Tryz.progTables (by conv => lhs; cbv) (by kernel_rfl)⟩
end Go.Proofs.YtjbcnilllfaipaaGreat
set_option linter.unusedVariables false
set_option maxRecDepth 100000
namespace Go.Proofs.YtjbcnilllfaipaaGreat
open Go.Proofs.YtjbcnilllfaipaaGreat.Av

theorem Mj : Tryz.prog.follows .mixedOrders = true := by kernel_rfl

def Gw : Ir Tryz.prog 32 [] [9999] 2 := ⟨_, _, Tryz.func32, Mj, by kernel_rfl, Ag [] Tryz.progTables (by conv => lhs; cbv) (by kernel_rfl)⟩
def Gz : Ir Tryz.prog 33 [] [] 2 := ⟨_, _, Tryz.func33, Mj, by kernel_rfl, Ag [] Tryz.progTables (by conv => lhs; cbv) (by kernel_rfl)⟩
end Go.Proofs.YtjbcnilllfaipaaGreat
set_option linter.unusedVariables false
set_option maxRecDepth 100000
namespace Go.Proofs.YtjbcnilllfaipaaGreat
open Go.Proofs.YtjbcnilllfaipaaGreat.Av

theorem P3 : Tryz.prog.follows .mixedOrders = true := by kernel_rfl

def IA : Ir Tryz.prog 61 [] [] 1 := ⟨_, _, Tryz.func61, P3, by kernel_rfl, Ag [] Tryz.progTables (by conv => lhs; cbv) (by kernel_rfl)⟩
end Go.Proofs.YtjbcnilllfaipaaGreat
