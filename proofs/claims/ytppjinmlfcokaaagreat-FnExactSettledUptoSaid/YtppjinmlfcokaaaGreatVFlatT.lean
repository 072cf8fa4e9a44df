/-
 A TREE OF A PROGRAM LAID DOWN IN ROWS OF ITS OWN: flat, programOf, by the program's abstract texts. Conditions: none.
-/
import Derived.Test.YtppjinmlfcokaaaGreatVCopyO
import Derived.Test.YtppjinmlfcokaaaGreatVJ13
import Derived.Test.YtppjinmlfcokaaaGreatVJ24
set_option linter.unusedVariables false
set_option linter.unusedSimpArgs false
set_option maxRecDepth 100000
namespace Go.Proofs.YtppjinmlfcokaaaGreat
open Go.RowKit Go.Proofs.YtppjinmlfcokaaaGreat.Av Go.Proofs.YtppjinmlfcokaaaGreat.Ml
open Go.Proofs.YtppjinmlfcokaaaGreat.Av.AVal (av)
open OVal (ov oh on)

def Agg (G : List AV) (x : AV) (hp : Hp) : Prop := (G = [] ∧ x = .An ∧ hp = []) ∨ ∃ v, x = .row 29 v G.length ∧ hp = [(29, ⟨v, false, 49, 6, G⟩)]
def NJ (nm : Nat) (G : List AV) (t : Tr) (r : AV) (hp' : Hp) : Prop := ∃ v vs, r = .tup [.row 29 v (G.length + t.size), .int .i64 G.length] ∧ hp' = (29, ⟨v, false, 49, 6, G ++ ovL nm vs G.length (Bz G.length t)⟩) :: ohL nm vs G.length (Bz G.length t)
structure FtS where
 j : Nat
 v : Nat
 u : Nat
 vs : Nat → Nat
set_option maxHeartbeats 4000000 in
theorem AdE (nm : Nat) : ∀ (t : Tr), t.ok → ∀ (G : List AV) (x : AV) (hp : Hp), Agg G x hp → G.length + t.size ≤ 4294967296 → Bu Tryz.prog 66 [x, av t] hp (NJ nm G t) := by
 refine Tr.ind fun n ks ih hok G x hp hx hb => ?_
 rw [Tr.ok] at hok
 obtain ⟨⟨ht3, ht13, hbn⟩, hoks⟩ := hok
 have ec : (Tr.mk n ks).size = Tr.AJ ks + 1 := by rw [Tr.size]
 rw [ec] at hb
 have hkl := Cy ks
 have hbp : Ac.bulk n.Ae ≤ Ac.bulk n := by simp only [Ac.bulk]; omega
 have hpl := Ai n.Ae
 obtain ⟨P, hP⟩ : ∃ P, P = sub (sub nm G.length) 1 := ⟨_, rfl⟩
 have CP := M5 P n.Ae (by omega)
 have hPn : ∀ q, q < 10000 → (q == P) = false := fun q hq => by rw [hP]; exact Cu hq
 have hPg : 10000 ≤ P := by rw [hP]; exact Cm _ _
 have hPm : ∀ q, q < 10000 → (P = q) = False := fun q hq => eq_false fun e => by omega
 refine HN.H rfl ?_
 obtain ⟨N0, hN0⟩ : ∃ N0 : Nat → AV, N0 = fun v => .agg [.int .i64 n.kind, .int .i64 n.pos, .int .i64 n.n, .str n.s, .An, .row P v n.Ae.length] := ⟨_, rfl⟩
 rcases hx with ⟨hG0, rfl, rfl⟩ | ⟨v, rfl, rfl⟩
 case' inl =>
  have hG1 : G.length = 0 := by rw [hG0]; rfl
  simp +contextual -dsimp (maxSteps := 2000000) only [↓SD, SU, simprocAttr, HN, FL, Ab]
  refine Bt [] CP (by simp +contextual -dsimp only [↓SD, SU, simprocAttr]) ?_
  rintro r hp' ⟨vp, rfl, rfl⟩ H hH
  rw [DN, List.append_nil] at hH
  have hoP : AR H (oh P vp n.Ae) := by rw [hH]; exact OVal.self _ _ _
  have hr1 := BS hoP
  simp +contextual -dsimp (maxSteps := 2000000) only [↓SD, SU, simprocAttr, DJ, Ab, hr1, hPn, hPm, false_and]
  refine ⟨by unfold maxLen; omega, fun v1 v2 => ?_⟩
  refine Am (X := FtS) (fun q => ⟨[(0, .row 29 q.v (G.length + 1 + Tr.AJ (ks.take q.j))), (6, .int .i64 G.length), (7, .row 30 q.u q.j), (43, .sl (ks.map av)), (44, .int .i64 ks.length), (45, .int .i64 q.j)], (29, ⟨q.v, false, 49, 6, G ++ [N0 (vp P)] ++ ovL nm q.vs (G.length + 1) (BD (G.length + 1) (ks.take q.j))⟩) :: (30, ⟨q.u, false, 3, 1, (Dd (G.length + 1) (ks.take q.j)).map av⟩) :: (oh P vp n.Ae ++ ohL nm q.vs (G.length + 1) (BD (G.length + 1) (ks.take q.j)))⟩) (fun q => q.j ≤ ks.length) (fun q => ks.length - q.j) ⟨0, v1, v2, fun _ => 0⟩ (Nat.zero_le _) (by simp +contextual -dsimp only [↓SD, SU, simprocAttr, List.take_zero, Tr.AJ, hG1]) (by
   simp +contextual -dsimp (maxSteps := 2000000) only [↓SD, SU, simprocAttr, List.take_zero, BD, Dd, List.map_nil, List.append_nil, hG0, hN0, ovL, ohL]
   exact Cd (Cd hoP (fun p hp e => by have := (OVal.inh hp).le; omega)) (fun p hp e => by have := (OVal.inh hp).le; omega)) ?_
 case' inr =>
  have t0 : List.take G.length G = G := List.take_length
  simp +contextual -dsimp (maxSteps := 2000000) only [↓SD, SU, simprocAttr, HN, FL, Ab, t0]
  refine Bt [] CP (by simp +contextual -dsimp only [↓SD, SU, simprocAttr]) ?_
  rintro r hp' ⟨vp, rfl, rfl⟩ H hH
  rw [DN] at hH
  have hoP : AR H (oh P vp n.Ae) := by rw [hH]; exact Cj (OVal.self _ _ _)
  have hr1 := BS hoP
  have hold : ∀ q, q < 10000 → Ao H q = Ao [(29, ⟨v, false, 49, 6, G⟩)] q := fun q hq => by
   rw [hH, Cx (Lh fun h => by have := h.le; omega)]
  simp +contextual -dsimp (maxSteps := 2000000) only [↓SD, SU, simprocAttr, DJ, Ab, hr1, hold, hPn, hPm, t0, false_and]
  refine ⟨⟨by omega, by unfold maxLen; omega⟩, fun v1 v2 => ?_⟩
  refine Am (X := FtS) (fun q => ⟨[(0, .row 29 q.v (G.length + 1 + Tr.AJ (ks.take q.j))), (6, .int .i64 G.length), (7, .row 30 q.u q.j), (43, .sl (ks.map av)), (44, .int .i64 ks.length), (45, .int .i64 q.j)], (29, ⟨q.v, false, 49, 6, G ++ [N0 (vp P)] ++ ovL nm q.vs (G.length + 1) (BD (G.length + 1) (ks.take q.j))⟩) :: (30, ⟨q.u, false, 3, 1, (Dd (G.length + 1) (ks.take q.j)).map av⟩) :: (oh P vp n.Ae ++ ohL nm q.vs (G.length + 1) (BD (G.length + 1) (ks.take q.j)))⟩) (fun q => q.j ≤ ks.length) (fun q => ks.length - q.j) ⟨0, v1, v2, fun _ => 0⟩ (Nat.zero_le _) (by simp +contextual -dsimp only [↓SD, SU, simprocAttr, List.take_zero, Tr.AJ]) (by
   simp +contextual -dsimp (maxSteps := 2000000) only [↓SD, SU, simprocAttr, List.take_zero, BD, Dd, List.map_nil, List.append_nil, hN0, ovL, ohL]
   exact Cd (Cd hoP (fun p hp e => by have := (OVal.inh hp).le; omega)) (fun p hp e => by have := (OVal.inh hp).le; omega)) ?_
  clear hold
 all_goals
  clear hr1 hoP hH H
  obtain ⟨W, hW⟩ : ∃ W, W = oh P vp n.Ae := ⟨_, rfl⟩
  have hWW : AR W W := by rw [hW]; exact OVal.self _ _ _
  have hWi : ∀ p ∈ W, InT P p.1 := by rw [hW]; exact fun p hp => OVal.inh hp
  have hWg : ∀ p ∈ W, 10000 ≤ p.1 := fun p hp => by have := (hWi p hp).le; omega
  have hWs : ∀ p ∈ W, InT (sub nm G.length) p.1 := fun p hp => by have h := hWi p hp; rw [hP] at h; exact h.up
  have hN0f := congrFun hN0 (vp P)
  rw [← hW]
  rintro ⟨j, a, b, vs⟩ hj
  dsimp only at hj ⊢
  by_cases hlt : j < ks.length
  ·have e1 := getD_map av ks j .top hlt
   have b2 := Jf ks j hlt
   have ht : ks.take (j + 1) = ks.take j ++ [ks[j]] := List.take_succ_eq_append_getElem hlt
   have hpx : G.length + 1 + Tr.AJ (ks.take (j + 1)) = G.length + 1 + Tr.AJ (ks.take j) + (ks[j]).size := by rw [ht, Nn]; omega
   have hfl := Jl (G.length + 1) (ks.take j)
   have hkp := ED (G.length + 1) (ks.take j)
   rw [List.length_take, Nat.min_eq_left hj] at hkp
   have hL : (G ++ [N0 (vp P)] ++ ovL nm vs (G.length + 1) (BD (G.length + 1) (ks.take j))).length = G.length + 1 + Tr.AJ (ks.take j) := by simp [hfl, Dp]; omega
   have C := ih ks[j] (List.getElem_mem hlt) (TB hoks (List.getElem_mem hlt)) (G ++ [N0 (vp P)] ++ ovL nm vs (G.length + 1) (BD (G.length + 1) (ks.take j))) (.row 29 a (G.length + 1 + Tr.AJ (ks.take j))) [(29, ⟨a, false, 49, 6, G ++ [N0 (vp P)] ++ ovL nm vs (G.length + 1) (BD (G.length + 1) (ks.take j))⟩)] (.inr ⟨a, by rw [hL], rfl⟩) (by rw [hL]; omega)
   unfold NJ at C
   rw [hL] at C
   have hsn : BD (G.length + 1) (ks.take (j + 1)) = BD (G.length + 1) (ks.take j) ++ Bz (G.length + 1 + Tr.AJ (ks.take j)) ks[j] := by rw [ht, LM]
   have hks : (Dd (G.length + 1) (ks.take (j + 1))).map (av : Int → AV) = (Dd (G.length + 1) (ks.take j)).map av ++ [.int .i64 ((G.length : Int) + 1 + (Tr.AJ (ks.take j) : Int))] := by rw [ht, Nu, List.map_append]; rfl
   have hkm : ((Dd (G.length + 1) (ks.take j)).map (av : Int → AV)).length = j := by rw [List.length_map, hkp]
   have hkt : List.take j ((Dd (G.length + 1) (ks.take j)).map (av : Int → AV)) = (Dd (G.length + 1) (ks.take j)).map av := List.take_of_length_le (by rw [hkm]; exact Nat.le_refl _)
   generalize (Dd (G.length + 1) (ks.take j)).map (av : Int → AV) = KP at *
   generalize hX : BD (G.length + 1) (ks.take j) = X at *
   generalize hY : Bz (G.length + 1 + Tr.AJ (ks.take j)) ks[j] = Y at *
   have hgl := fun vs1 => AbR (nm := nm) vs1 vs (G.length + 1) X Y
   rw [hfl] at hgl
   generalize hN : Tr.AJ (ks.take j) = N at *
   obtain ⟨Q, hQ⟩ : ∃ Q, Q = G ++ [N0 (vp P)] ++ ovL nm vs (G.length + 1) X := ⟨_, rfl⟩
   rw [← hQ] at C ⊢
   simp +contextual -dsimp (maxSteps := 2000000) only [↓SD, SU, simprocAttr, hlt, Ab, e1, O2, Afp, Aeq, OE, Afq, Af3]
   refine Bt [29] C (by simp +contextual -dsimp only [↓SD, SU, simprocAttr, OE, false_and]) ?_
   rintro r hp' ⟨w, vs1, rfl, rfl⟩ H hH
   have hYn : ∀ p ∈ ohL nm vs1 (G.length + 1 + N) Y, ∃ i, G.length + 1 + N ≤ i ∧ InT (sub nm i) p.1 := fun p hp => DY hp
   have h30 : Ao H 30 = some ⟨b, false, 3, 1, KP⟩ := by
    rw [hH, List.cons_append, BL (by decide), Qe, AeO (by decide)]
    show Ao (Ci [29] _) 30 = _
    rw [BT (by decide), BL (by decide), BH]
   have h29 : Ao H 29 = some ⟨w, false, 49, 6, Q ++ ovL nm vs1 (G.length + 1 + N) Y⟩ := by rw [hH]; exact BH
   have hlast : ∀ bx, AR ((30, bx) :: H) (W ++ (ohL nm vs (G.length + 1) X ++ ohL nm vs1 (G.length + 1 + N) Y)) := fun bx => by
    refine AF.2 ⟨AL.2 fun p hp => ?_, ?_⟩
    ·have hge := hWg p hp
     rw [BL (by omega), hH, List.cons_append, BL (by omega), Cx (fun q hq e => by
      obtain ⟨i, hi, h1⟩ := hYn q hq
      rw [e] at h1
      have := h1.sib (hWs p hp)
      omega), BT (by simp; omega), BL (by omega), BL (by omega)]
     exact Qd (AL.1 hWW p hp)
    ·have h1 := Abz (nm := nm) (vs := vs1) (vs' := vs) (a := X) (b := Y) (i := G.length + 1) (m := G.length + 1 + N) (s := Ci [29] ((29, ⟨a, false, 49, 6, Q⟩) :: (30, ⟨b, false, 3, 1, KP⟩) :: (W ++ ohL nm vs (G.length + 1) X))) (by omega) (fun p hp => by
      obtain ⟨i, hi, hq⟩ := DY hp
      have hge := hq.ge
      rw [BT (by simp; omega), BL (by omega), BL (by omega), Cx (fun q hq' e => by
       have h1 := hWs q hq'
       rw [e] at h1
       have := h1.sib hq
       omega)]
      exact AL.1 (Dc nm vs _ X) p hp)
     refine AL.2 fun p hp => ?_
     have hge : 10000 ≤ p.1 := by
      rcases List.mem_append.1 hp with h | h
      ·exact Fy p h
      ·exact Fy p h
     rw [BL (by omega), hH, List.cons_append, BL (by omega)]
     exact AL.1 h1 p hp
   simp +contextual -dsimp (maxSteps := 2000000) only [↓SD, SU, simprocAttr, hkm, hkt, Int.natCast_add, h30, h29]
   refine ⟨⟨by omega, by unfold maxLen; omega⟩, fun v => ⟨by omega, Af.le ⟨⟨j + 1, w, v, Lw nm (G.length + 1 + N) vs1 vs⟩, ⟨hlt, (by first | omega | (simp only; omega))⟩, rfl⟩ (by simp +contextual -dsimp only [↓SD, SU, simprocAttr, Int.natCast_add, hpx]) ?_⟩⟩
   rw [hsn, (hgl vs1).1, (hgl vs1).2, ← List.append_assoc, ← hQ, hks]
   simp +contextual -dsimp (maxSteps := 2000000) only [↓SD, SU, simprocAttr, h29]
   exact hlast _
  ·obtain rfl : j = ks.length := by omega
   rw [List.take_length]
   have hkp := ED (G.length + 1) ks
   have hfl := Jl (G.length + 1) ks
   have hfx : Bz G.length (.mk n ks) = { n with kids := Dd (G.length + 1) ks } :: BD (G.length + 1) ks := by rw [Bz]
   have hL : (G ++ [N0 (vp P)] ++ ovL nm vs (G.length + 1) (BD (G.length + 1) ks)).length = G.length + 1 + Tr.AJ ks := by simp [hfl, Dp]; omega
   have hG : (G ++ [N0 (vp P)] ++ ovL nm vs (G.length + 1) (BD (G.length + 1) ks)).getD G.length .top = N0 (vp P) := by simp [List.getD_eq_getElem?_getD]
   have hS : ∀ x, (G ++ [N0 (vp P)] ++ ovL nm vs (G.length + 1) (BD (G.length + 1) ks)).set G.length x = G ++ x :: ovL nm vs (G.length + 1) (BD (G.length + 1) ks) := fun x => by
    simp [List.set_append]
   have hlt2 : (G.length : Int) < (G.length : Int) + 1 + (Tr.AJ ks : Int) := by omega
   have hlt3 : G.length < G.length + 1 + Tr.AJ ks := by omega
   generalize hX : BD (G.length + 1) ks = X at *
   obtain ⟨Q, hQ⟩ : ∃ Q, Q = G ++ [N0 (vp P)] ++ ovL nm vs (G.length + 1) X := ⟨_, rfl⟩
   rw [← hQ] at hL hG hS ⊢
   rw [hN0f] at hG
   obtain ⟨KP, hKP⟩ : ∃ KP, KP = Dd (G.length + 1) ks := ⟨_, rfl⟩
   rw [← hKP] at hkp hfx ⊢
   simp +contextual -dsimp (maxSteps := 2000000) only [↓SD, SU, simprocAttr, Nat.lt_irrefl]
   obtain ⟨K, hK⟩ : ∃ K, K = sub (sub nm G.length) 0 := ⟨_, rfl⟩
   have hKg : 10000 ≤ K := by rw [hK]; exact Cm _ _
   have hKi : InT (sub nm G.length) K := by rw [hK]; exact InT.up (i := 0) .root
   have hKW : ∀ p ∈ W, K ≠ p.1 := fun p hp e => by
    have h1 := hWi p hp
    rw [← e, hP, hK] at h1
    have := h1.sib .root
    omega
   have hKX : ∀ p ∈ ohL nm vs (G.length + 1) X, K ≠ p.1 := fun p hp e => by
    obtain ⟨i, hi, h1⟩ := DY hp
    rw [← e] at h1
    have := h1.sib hKi
    omega
   refine EK (Af.ren 7 30 K (v := b) (n := ks.length) rfl (by rw [BL (by decide)]; exact BH) rfl fun v' => Af.here ?_)
   obtain ⟨H, hH⟩ : ∃ H, H = ((K, (⟨v', false, 3, 1, KP.map av⟩ : Box)) :: Ci [30] ((29, ⟨a, false, 49, 6, Q⟩) :: (30, ⟨b, false, 3, 1, KP.map av⟩) :: (W ++ ohL nm vs (G.length + 1) X)) : Hp) := ⟨_, rfl⟩
   dsimp only
   rw [← hH]
   have h29 : Ao H 29 = some ⟨a, false, 49, 6, Q⟩ := by
    rw [hH, BL (by omega), BT (by decide), BH]
   obtain ⟨va, hva⟩ : ∃ va : Nat → Nat, va = Lw nm (G.length + 1) vs (fun q => if q = K then v' else vp q) := ⟨_, rfl⟩
   have hvo : ∀ q, InT (sub nm G.length) q → va q = if q = K then v' else vp q := fun q hq => by
    rw [hva]
    exact if_neg (fun ⟨i, hi, hin⟩ => by have := hin.sib hq; omega)
   have hvK : va K = v' := by rw [hvo K hKi, if_pos rfl]
   have hvP := OVal.FN P va vp n.Ae (fun q hq => by
    rw [hvo q (by rw [hP] at hq; exact hq.up), if_neg (fun e => by
     rw [e, hP, hK] at hq
     have := hq.sib .root
     omega)])
   have hvPP : va P = vp P := by have := hvP.1; rw [DJ, DJ] at this; exact (AV.row.inj this).2.1
   have hg3 := Qj (nm := nm) (m := G.length + 1) vs (fun q => if q = K then v' else vp q) (G.length + 1) X (Nat.le_refl _)
   rw [← hva] at hg3
   have hov : ovL nm va G.length (Bz G.length (.mk n ks)) = .agg [.int .i64 n.kind, .int .i64 n.pos, .int .i64 n.n, .str n.s, .row K v' ks.length, .row P (vp P) n.Ae.length] :: ovL nm vs (G.length + 1) X := by
    rw [hfx, ovL, hg3.1, AeH, ← hK, ← hP, hvK, hvPP, ← hkp]
   have hoh : ohL nm va G.length (Bz G.length (.mk n ks)) = (K, ⟨v', false, 3, 1, KP.map av⟩) :: (W ++ ohL nm vs (G.length + 1) X) := by
    rw [hfx, ohL, hg3.2, AeN, ← hK, ← hP, ZX, hvK, hvP.2, ← hW]; simp only [List.append_assoc, List.cons_append, List.nil_append]
   simp +contextual -dsimp (maxSteps := 2000000) only [↓SD, SU, simprocAttr, h29, hL, hG, hS, hlt2, hlt3, Nat.le_refl]
   refine Af.post ((29, ⟨a, false, 49, 6, G ++ ovL nm va G.length (Bz G.length (.mk n ks))⟩) :: ohL nm va G.length (Bz G.length (.mk n ks))) ?_
   rw [hov, hoh]
   have hWX : AR (W ++ ohL nm vs (G.length + 1) X) (W ++ ohL nm vs (G.length + 1) X) := AF.2 ⟨Cj hWW, Fl (Dc _ _ _ _) fun p hp q hq e => by
    have h1 := hWs q hq
    obtain ⟨i, hi, h2⟩ := DY hp
    rw [e] at h1
    have := h1.sib h2
    omega⟩
   have hlast : ∀ bx, AR ((29, bx) :: H) ((K, ⟨v', false, 3, 1, KP.map av⟩) :: (W ++ ohL nm vs (G.length + 1) X)) := fun bx => by
    refine AL.2 fun p hp => ?_
    rcases List.mem_cons.1 hp with e | e
    ·subst e
     rw [BL (by simp only; omega), hH]; exact BH
    ·have hge : 10000 ≤ p.1 := (List.mem_append.1 e).elim (hWg p) (Fy p)
     have hne : K ≠ p.1 := (List.mem_append.1 e).elim (hKW p) (hKX p)
     rw [BL (by omega), hH, BL hne, BT (by simp; omega), BL (by omega), BL (by omega)]
     exact AL.1 hWX p e
   simp +contextual -dsimp (maxSteps := 2000000) only [↓SD, SU, simprocAttr, false_and]
   have hl2 := hlast ⟨a, false, 49, 6, G ++ .agg [.int .i64 n.kind, .int .i64 n.pos, .int .i64 n.n, .str n.s, .row K v' ks.length, .row P (vp P) n.Ae.length] :: ovL nm vs (G.length + 1) X⟩
   rw [I6] at hl2
   exact ⟨hl2, a, va, by rw [ec]; exact congrArg (fun z => AV.tup [.row 29 a z, .int .i64 G.length]) (by omega), by rw [hov, hoh]⟩
theorem Ix (nm : Nat) (ty : List BF) (t : Tr) (hok : t.ok) (hb : t.size ≤ 4294967296) (hx : Ac.bulk ty ≤ 4294967296) : Bu Tryz.prog 32 [.sl (ty.map av), av t] [] (DC nm (⟨ty, Bz 0 t⟩ : Program)) := by
 have CF := AdE (sub nm 1) t hok [] .An [] (.inl ⟨rfl, rfl, rfl⟩) (by simpa using hb)
 unfold NJ at CF
 have hl := Dm t 0
 simp only [List.length_nil, List.nil_append, Nat.zero_add] at CF
 rw [← hl] at CF
 have CT := Q7 (sub nm 0) ty hx
 generalize Bz 0 t = L at *
 refine Dt (Post := fun r hp' => ∃ v vs vt, r = .agg [.row (sub nm 0) (vt (sub nm 0)) ty.length, .row 29 v L.length] ∧ hp' = oh (sub nm 0) vt ty ++ ((29, ⟨v, false, 49, 6, ovL (sub nm 1) vs 0 L⟩) :: ohL (sub nm 1) vs 0 L)) (G8.H rfl ?_) ?_
 case refine_2 =>
  rintro r hp' ⟨v, vs, vt, rfl, rfl⟩
  have hb29 : Ao (oh (sub nm 0) vt ty ++ ((29, ⟨v, false, 49, 6, ovL (sub nm 1) vs 0 L⟩) :: ohL (sub nm 1) vs 0 L)) 29 = some ⟨v, false, 49, 6, ovL (sub nm 1) vs 0 L⟩ := by
   rw [Cx (Lh fun h => by have := h.ge; omega)]; exact BH
  refine Af.Af6 0 1 29 (sub nm 1) (v := v) (n := L.length) rfl rfl hb29 rfl fun v' => ?_
  obtain ⟨va, hva⟩ : ∃ va : Nat → Nat, va = glue (sub nm 0) vt (glue (sub nm 1) (fun k => if k = sub nm 1 then v' else vs k) vs) := ⟨_, rfl⟩
  have hne : ∀ k, InT (sub nm 1) k → ¬ InT (sub nm 0) k := fun k h => Dn (by omega) h
  have e1 : oh (sub nm 0) va ty = oh (sub nm 0) vt ty := by rw [hva, OP]
  have e2 : oh (sub nm 1) va L = ohL (sub nm 1) vs 0 L ++ [(sub nm 1, ⟨v', false, OVal.ty Node, AVal.n Node, ovL (sub nm 1) vs 0 L⟩)] := by rw [hva, Ki _ _ _ hne, (K4 L).2]
  have e3 : va (sub nm 0) = vt (sub nm 0) := by rw [hva, Jq .root]
  have e4 : va (sub nm 1) = v' := by rw [hva, EJ (hne _ .root), Jq .root, if_pos rfl]
  refine Af.le (t := ⟨[(0, .agg [.row (sub nm 0) (vt (sub nm 0)) ty.length, .row (sub nm 1) v' L.length])], oh (sub nm 0) vt ty ++ (ohL (sub nm 1) vs 0 L ++ [(sub nm 1, ⟨v', false, OVal.ty Node, AVal.n Node, ovL (sub nm 1) vs 0 L⟩)])⟩) ⟨va, by rw [BV, e3, e4]; rfl, by rw [Dl, e1, e2]⟩ (by simp +contextual -dsimp only [↓SD, SU, simprocAttr]) ?_
  refine AF.2 ⟨AL.2 fun p hp => ?_, AF.2 ⟨AL.2 fun p hp => ?_, BH, trivial⟩⟩
  ·have hin := OVal.inh hp
   have hge := hin.ge
   rw [BL (fun e : sub nm 1 = p.1 => hne _ .root (by rw [e]; exact hin)), BT (by simp; omega)]
   exact Qd (AL.1 (OVal.self _ _ _) p hp)
  ·obtain ⟨q, _, hq⟩ := DY hp
   have hge := hq.ge
   rw [BL (fun e => hq.ne e.symm), BT (by simp; omega), Cx (Lh (hne _ hq.up)), BL (by omega)]
   exact AL.1 (Dc _ _ _ _) p hp
 simp +contextual -dsimp (maxSteps := 2000000) only [↓SD, SU, simprocAttr, G8, OE]
 intro v4
 refine Bt [] CF (by simp +contextual -dsimp only [↓SD, SU, simprocAttr]) ?_
 rintro r hp' ⟨v, vs, rfl, rfl⟩ H hH
 rw [DN] at hH
 have h29 : Ao H 29 = some ⟨v, false, 49, 6, ovL (sub nm 1) vs 0 L⟩ := by rw [hH]; exact BH
 have h4 : Ao H 4 = some ⟨v4, false, 31, 2, [.agg [.An, .An]]⟩ := by
  rw [hH, List.cons_append, BL (by decide), Cx (fun p hp => by have := Fy p hp; omega)]; exact BH
 have hHL : AR H (ohL (sub nm 1) vs 0 L) := by
  rw [hH]
  exact Cd (Cj (Dc _ _ _ _)) (fun p hp e => by have := Fy p hp; omega)
 simp +contextual -dsimp (maxSteps := 2000000) only [↓SD, SU, simprocAttr]
 refine Bt [] CT (by simp +contextual -dsimp only [↓SD, SU, simprocAttr]) ?_
 rintro r hp' ⟨vt, rfl, rfl⟩ H2 hH2
 rw [DN] at hH2
 have hold := OO hH2
 have hoT : AR H2 (oh (sub nm 0) vt ty) := by rw [hH2]; exact Cj (OVal.self _ _ _)
 have hr := BS hoT
 have hHL2 : AR H2 (ohL (sub nm 1) vs 0 L) := by
  rw [hH2]
  exact Fl hHL fun p hp q hq e => by
   obtain ⟨i, _, h1⟩ := DY hp
   exact Dn (i := 1) (j := 0) (by omega) h1.up (e ▸ OVal.inh hq)
 simp +contextual -dsimp (maxSteps := 2000000) only [↓SD, SU, simprocAttr, DJ, hold, h29, h4, hr, Cu, false_and]
 refine Af.post (oh (sub nm 0) vt ty ++ ((29, ⟨v, false, 49, 6, ovL (sub nm 1) vs 0 L⟩) :: ohL (sub nm 1) vs 0 L)) ?_
 simp +contextual -dsimp (maxSteps := 2000000) only [↓SD, SU, simprocAttr, hold, h29, h4, hr, Cu, false_and]
 refine ⟨AF.2 ⟨AdA hoT (by omega), ?_, Cd hHL2 (fun p hp e => by have := Fy p hp; omega)⟩, v, vs, vt, rfl, rfl⟩
 rw [BL (by decide), hold 29 (by decide), h29]
end Go.Proofs.YtppjinmlfcokaaaGreat
