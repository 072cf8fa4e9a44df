/-
  A TREE LAID DOWN IN THE WALK's ORDER, in rows of its own: flatPat, dataOf, by their abstract texts. Conditions: none.
-/
import Derived.Test.YtfdkgbejhdmpbaaPackH
import Derived.Test.YtfdkgbejhdmpbaaPackM
import Derived.Test.YtfdkgbejhdmpbaaIrHitO
set_option linter.unusedVariables false
set_option linter.unusedSimpArgs false
set_option maxRecDepth 100000
namespace Go.Proofs.Ytfdkgbejhdmpbaa
open Go.RowKit Go.Proofs.Ytfdkgbejhdmpbaa.Av Go.Proofs.Ytfdkgbejhdmpbaa.Ml
open Go.Proofs.Ytfdkgbejhdmpbaa.Av.AVal (av)
open OVal (ov oh on)

open Classical in
/-- versions: within the parts from the m-th on as vs, elsewhere as vs' -/
noncomputable def glueR (nm m : Nat) (vs vs' : Nat → Nat) : Nat → Nat := fun k => if ∃ i, m ≤ i ∧ InT (sub nm i) k then vs k else vs' k
section
variable {α : Type} [AVal α] [OVal α]
theorem glueR_hi {nm m : Nat} (vs vs' : Nat → Nat) : ∀ (i : Nat) (l : List α), m ≤ i → ovL nm (glueR nm m vs vs') i l = ovL nm vs i l ∧ ohL nm (glueR nm m vs vs') i l = ohL nm vs i l
  | _, [], _ => ⟨rfl, rfl⟩
  | i, e :: r, h => by
    obtain ⟨a, b⟩ := glueR_hi (nm := nm) (m := m) vs vs' (i + 1) r (by omega)
    obtain ⟨c, d⟩ := OVal.vdep (sub nm i) (glueR nm m vs vs') vs e (fun k hk => if_pos ⟨i, h, hk⟩)
    simp only [ovL, ohL, a, b, c, d, and_self]
theorem glueR_lo {nm m : Nat} (vs vs' : Nat → Nat) : ∀ (i : Nat) (l : List α), i + l.length ≤ m → ovL nm (glueR nm m vs vs') i l = ovL nm vs' i l ∧ ohL nm (glueR nm m vs vs') i l = ohL nm vs' i l
  | _, [], _ => ⟨rfl, rfl⟩
  | i, e :: r, h => by
    simp only [List.length_cons] at h
    obtain ⟨a, b⟩ := glueR_lo (nm := nm) (m := m) vs vs' (i + 1) r (by omega)
    obtain ⟨c, d⟩ := OVal.vdep (sub nm i) (glueR nm m vs vs') vs' e (fun k hk => if_neg (fun ⟨j, hj, hk'⟩ => by have := hk.sib hk'; omega))
    simp only [ovL, ohL, a, b, c, d, and_self]
theorem glueR_app {nm : Nat} (vs vs' : Nat → Nat) (i : Nat) (a b : List α) : ovL nm (glueR nm (i + a.length) vs vs') i (a ++ b) = ovL nm vs' i a ++ ovL nm vs (i + a.length) b ∧ ohL nm (glueR nm (i + a.length) vs vs') i (a ++ b) = ohL nm vs' i a ++ ohL nm vs (i + a.length) b := by
  have h1 := glueR_lo (α := α) (nm := nm) (m := i + a.length) vs vs' i a (Nat.le_refl _)
  have h2 := glueR_hi (α := α) (nm := nm) (m := i + a.length) vs vs' (i + a.length) b (Nat.le_refl _)
  rw [ovL_app, ohL_app, h1.1, h1.2, h2.1, h2.2]
  exact ⟨rfl, rfl⟩
/-- what lies in parts of some indices is kept beside parts of others -/
theorem parts_app {nm m i : Nat} {vs vs' : Nat → Nat} {a b : List α} {s : Hp} (hm : i + a.length ≤ m) (hs : ∀ p ∈ ohL nm vs' i a, hget s p.1 = some p.2) : hpLe (ohL nm vs m b ++ s) (ohL nm vs' i a ++ ohL nm vs m b) := by
  rw [hpLe_app]
  refine ⟨hpLe_iff.2 fun p hp => ?_, hpLe_l (ohL_self nm vs m b)⟩
  obtain ⟨q, hq, hin⟩ := ohL_mem hp
  have hn : ∀ r ∈ ohL nm vs m b, r.1 ≠ p.1 := fun r hr e => by
    obtain ⟨j, hj, h2⟩ := ohL_in hr
    rw [e] at h2
    have := h2.sib (OVal.inh hin)
    omega
  rw [hg_app_r hn]
  exact hs p hp
end
def growO (G : List AV) (x : AV) (hp : Hp) : Prop := (G = [] ∧ x = .nils ∧ hp = []) ∨ ∃ v, x = .row 29 v G.length ∧ hp = [(29, ⟨v, false, 83, 4, G⟩)]
def FlatPostO (nm : Nat) (G : List AV) (e : Px) (r : AV) (hp' : Hp) : Prop := ∃ v vs, r = .tup [.row 29 v (G.length + pxN e), .int .i64 G.length] ∧ hp' = (29, ⟨v, false, 83, 4, G ++ ovL nm vs G.length (flatX G.length e)⟩) :: ohL nm vs G.length (flatX G.length e)
structure FoS where
  j : Nat
  v : Nat
  u : Nat
  vs : Nat → Nat
theorem ohL_far {α : Type} [AVal α] [OVal α] {nm i q : Nat} {vs : Nat → Nat} {l : List α} (h : q < 10000) : hget (ohL nm vs i l) q = none := hg_none fun p hp e => by
  obtain ⟨j, _, hj⟩ := ohL_in hp
  have := hj.ge
  omega
theorem flatPatO_ok (nm : Nat) : ∀ (e : Px) (G : List AV) (x : AV) (hp : Hp), growO G x hp → G.length + pxN e ≤ 1048576 → CallsH Try.prog 63 [x, av e] hp (FlatPostO nm G e) := by
  refine Px.ind fun n ks ih G x hp hx hb => ?_
  have ec : pxN (.mk n ks) = 1 + pxNs ks := by rw [pxN]
  rw [ec] at hb
  have hkl := pxNs_len ks
  refine funH_impl_flatPat rfl ?_
  rcases hx with ⟨hG0, rfl, rfl⟩ | ⟨v, rfl, rfl⟩
  case' inl =>
    have hG1 : G.length = 0 := by rw [hG0]; rfl
    simp +contextual -dsimp (maxSteps := 2000000) only [↓SD, SU, SB, Nat.reduceAdd, Nat.reduceBEq, Nat.reduceEqDiff, Nat.reduceLeDiff, Nat.reduceLT, Nat.reduceSub, ↓reduceIte, zA, zI, zN, reduceCtorEq, Int.reduceToNat, zE, Int.reduceEq, Int.reduceLT, Int.reduceLE, Int.reduceNeg, Int.reduceAdd, Int.reduceSub, ir_impl_flatPat, rs_impl_flatPat, av_Px, map_len]
    refine ⟨⟨by omega, by unfold maxLen; omega⟩, fun v1 v2 => ?_⟩
    refine aLoop_of (X := FoS) (fun q => ⟨[(0, .row 29 q.v (G.length + 1 + pxNs (ks.take q.j))), (6, .int .i64 G.length), (7, .row 30 q.u q.j), (34, .sl (ks.map av)), (35, .int .i64 ks.length), (36, .int .i64 q.j)], (29, ⟨q.v, false, 83, 4, G ++ [.agg [.int .i64 n.kind, .int .i64 n.n, .str n.s, .nils]] ++ ovL nm q.vs (G.length + 1) (flatXs (G.length + 1) (ks.take q.j))⟩) :: (30, ⟨q.u, false, 3, 1, (kidPos (G.length + 1) (ks.take q.j)).map av⟩) :: ohL nm q.vs (G.length + 1) (flatXs (G.length + 1) (ks.take q.j))⟩) (fun q => q.j ≤ ks.length) (fun q => ks.length - q.j) ⟨0, v1, v2, fun _ => 0⟩ (Nat.zero_le _) (by simp +contextual -dsimp only [↓SD, SU, SB, Nat.reduceAdd, Nat.reduceBEq, Nat.reduceEqDiff, Nat.reduceLeDiff, Nat.reduceLT, Nat.reduceSub, ↓reduceIte, zA, zI, zN, reduceCtorEq, Int.reduceToNat, zE, List.take_zero, pxNs, hG1]) (by simp +contextual -dsimp only [↓SD, SU, SB, Nat.reduceAdd, Nat.reduceBEq, Nat.reduceEqDiff, Nat.reduceLeDiff, Nat.reduceLT, Nat.reduceSub, ↓reduceIte, zA, zI, zN, reduceCtorEq, Int.reduceToNat, zE, List.take_zero, flatXs, kidPos, List.map_nil, List.append_nil, hG0, ovL, ohL]) ?_
  case' inr =>
    have t0 : List.take G.length G = G := List.take_length
    simp +contextual -dsimp (maxSteps := 2000000) only [↓SD, SU, SB, Nat.reduceAdd, Nat.reduceBEq, Nat.reduceEqDiff, Nat.reduceLeDiff, Nat.reduceLT, Nat.reduceSub, ↓reduceIte, zA, zI, zN, reduceCtorEq, Int.reduceToNat, zE, Int.reduceEq, Int.reduceLT, Int.reduceLE, Int.reduceNeg, Int.reduceAdd, Int.reduceSub, ir_impl_flatPat, rs_impl_flatPat, av_Px, map_len, t0]
    refine ⟨⟨by omega, by unfold maxLen; omega⟩, fun v1 v2 => ?_⟩
    refine aLoop_of (X := FoS) (fun q => ⟨[(0, .row 29 q.v (G.length + 1 + pxNs (ks.take q.j))), (6, .int .i64 G.length), (7, .row 30 q.u q.j), (34, .sl (ks.map av)), (35, .int .i64 ks.length), (36, .int .i64 q.j)], (29, ⟨q.v, false, 83, 4, G ++ [.agg [.int .i64 n.kind, .int .i64 n.n, .str n.s, .nils]] ++ ovL nm q.vs (G.length + 1) (flatXs (G.length + 1) (ks.take q.j))⟩) :: (30, ⟨q.u, false, 3, 1, (kidPos (G.length + 1) (ks.take q.j)).map av⟩) :: ohL nm q.vs (G.length + 1) (flatXs (G.length + 1) (ks.take q.j))⟩) (fun q => q.j ≤ ks.length) (fun q => ks.length - q.j) ⟨0, v1, v2, fun _ => 0⟩ (Nat.zero_le _) (by simp +contextual -dsimp only [↓SD, SU, SB, Nat.reduceAdd, Nat.reduceBEq, Nat.reduceEqDiff, Nat.reduceLeDiff, Nat.reduceLT, Nat.reduceSub, ↓reduceIte, zA, zI, zN, reduceCtorEq, Int.reduceToNat, zE, List.take_zero, pxNs]) (by simp +contextual -dsimp only [↓SD, SU, SB, Nat.reduceAdd, Nat.reduceBEq, Nat.reduceEqDiff, Nat.reduceLeDiff, Nat.reduceLT, Nat.reduceSub, ↓reduceIte, zA, zI, zN, reduceCtorEq, Int.reduceToNat, zE, List.take_zero, flatXs, kidPos, List.map_nil, List.append_nil, ovL, ohL]) ?_
  all_goals
    rintro ⟨j, a, b, vs⟩ hj
    dsimp only at hj ⊢
    by_cases hlt : j < ks.length
    · have e1 := getD_map av ks j .top hlt
      have b2 := pxNs_take ks j hlt
      have ht : ks.take (j + 1) = ks.take j ++ [ks[j]] := List.take_succ_eq_append_getElem hlt
      have hpx : G.length + 1 + pxNs (ks.take (j + 1)) = G.length + 1 + pxNs (ks.take j) + pxN ks[j] := by rw [ht, pxNs_app]; omega
      have hfl := flatXs_len' (G.length + 1) (ks.take j)
      have hkp := kidPos_len (G.length + 1) (ks.take j)
      rw [List.length_take, Nat.min_eq_left hj] at hkp
      have hL : (G ++ [AV.agg [.int .i64 n.kind, .int .i64 n.n, .str n.s, .nils]] ++ ovL nm vs (G.length + 1) (flatXs (G.length + 1) (ks.take j))).length = G.length + 1 + pxNs (ks.take j) := by simp [hfl, ovL_len]; omega
      have C := ih ks[j] (List.getElem_mem hlt) (G ++ [.agg [.int .i64 n.kind, .int .i64 n.n, .str n.s, .nils]] ++ ovL nm vs (G.length + 1) (flatXs (G.length + 1) (ks.take j))) (.row 29 a (G.length + 1 + pxNs (ks.take j))) [(29, ⟨a, false, 83, 4, G ++ [.agg [.int .i64 n.kind, .int .i64 n.n, .str n.s, .nils]] ++ ovL nm vs (G.length + 1) (flatXs (G.length + 1) (ks.take j))⟩)] (.inr ⟨a, by rw [hL], rfl⟩) (by rw [hL]; omega)
      unfold FlatPostO at C
      rw [hL] at C
      have hsn : flatXs (G.length + 1) (ks.take (j + 1)) = flatXs (G.length + 1) (ks.take j) ++ flatX (G.length + 1 + pxNs (ks.take j)) ks[j] := by rw [ht, flatXs_snoc]
      have hks : (kidPos (G.length + 1) (ks.take (j + 1))).map (av : Int → AV) = (kidPos (G.length + 1) (ks.take j)).map av ++ [.int .i64 ((G.length : Int) + 1 + (pxNs (ks.take j) : Int))] := by rw [ht, kidPos_snoc, List.map_append]; rfl
      have hkm : ((kidPos (G.length + 1) (ks.take j)).map (av : Int → AV)).length = j := by rw [List.length_map, hkp]
      have hkt : List.take j ((kidPos (G.length + 1) (ks.take j)).map (av : Int → AV)) = (kidPos (G.length + 1) (ks.take j)).map av := List.take_of_length_le (by rw [hkm]; exact Nat.le_refl _)
      generalize (kidPos (G.length + 1) (ks.take j)).map (av : Int → AV) = KP at *
      generalize hX : flatXs (G.length + 1) (ks.take j) = X at *
      generalize hY : flatX (G.length + 1 + pxNs (ks.take j)) ks[j] = Y at *
      have hgl := fun vs1 => glueR_app (nm := nm) vs1 vs (G.length + 1) X Y
      rw [hfl] at hgl
      generalize hN : pxNs (ks.take j) = N at *
      obtain ⟨Q, hQ⟩ : ∃ Q, Q = G ++ [AV.agg [.int .i64 n.kind, .int .i64 n.n, .str n.s, .nils]] ++ ovL nm vs (G.length + 1) X := ⟨_, rfl⟩
      rw [← hQ] at C ⊢
      simp +contextual -dsimp (maxSteps := 2000000) only [↓SD, SU, SB, Nat.reduceAdd, Nat.reduceBEq, Nat.reduceEqDiff, Nat.reduceLeDiff, Nat.reduceLT, Nat.reduceSub, ↓reduceIte, zA, zI, zN, reduceCtorEq, Int.reduceToNat, zE, Int.reduceEq, Int.reduceLT, Int.reduceLE, Int.reduceNeg, Int.reduceAdd, Int.reduceSub, hlt, map_len, e1, px_cells, px_pur, px_pur1, px_purA, px_one, px_ok]
      refine aCallH_gen [29] C (by simp +contextual -dsimp only [↓SD, SU, SB, Nat.reduceAdd, Nat.reduceBEq, Nat.reduceEqDiff, Nat.reduceLeDiff, Nat.reduceLT, Nat.reduceSub, ↓reduceIte, zA, zI, zN, reduceCtorEq, Int.reduceToNat, zE, px_purA, false_and]) ?_
      rintro r hp' ⟨w, vs1, rfl, rfl⟩ H hH
      have h30 : hget H 30 = some ⟨b, false, 3, 1, KP⟩ := by
        rw [hH, List.cons_append, hg_ne (by decide), hg_app, ohL_far (by decide)]
        show hget (hrest [29] _) 30 = _
        rw [hget_rest_out (by decide), hg_ne (by decide), hg_eq]
      have h29 : hget H 29 = some ⟨w, false, 83, 4, Q ++ ovL nm vs1 (G.length + 1 + N) Y⟩ := by rw [hH]; exact hg_eq
      have hlast : ∀ bx, hpLe ((30, bx) :: H) (ohL nm vs (G.length + 1) X ++ ohL nm vs1 (G.length + 1 + N) Y) := fun bx => by
        have h1 := parts_app (nm := nm) (vs := vs1) (vs' := vs) (a := X) (b := Y) (i := G.length + 1) (m := G.length + 1 + N) (s := hrest [29] ((29, ⟨a, false, 83, 4, Q⟩) :: (30, ⟨b, false, 3, 1, KP⟩) :: ohL nm vs (G.length + 1) X)) (by omega) (fun p hp => by
          obtain ⟨q, _, hq⟩ := ohL_in hp
          have hge := hq.ge
          rw [hget_rest_out (by simp; omega), hg_ne (by omega), hg_ne (by omega)]
          exact hpLe_iff.1 (ohL_self nm vs _ X) p hp)
        refine hpLe_iff.2 fun p hp => ?_
        have hge : 10000 ≤ p.1 := by
          rcases List.mem_append.1 hp with h | h
          · obtain ⟨q, _, hq⟩ := ohL_in h; exact hq.ge
          · obtain ⟨q, _, hq⟩ := ohL_in h; exact hq.ge
        rw [hg_ne (by omega), hH, List.cons_append, hg_ne (by omega)]
        exact hpLe_iff.1 h1 p hp
      simp +contextual -dsimp (maxSteps := 2000000) only [↓SD, SU, SB, Nat.reduceAdd, Nat.reduceBEq, Nat.reduceEqDiff, Nat.reduceLeDiff, Nat.reduceLT, Nat.reduceSub, ↓reduceIte, zA, zI, zN, reduceCtorEq, Int.reduceToNat, zE, Int.reduceEq, Int.reduceLT, Int.reduceLE, Int.reduceNeg, Int.reduceAdd, Int.reduceSub, hkm, hkt, Int.natCast_add, h30, h29]
      refine ⟨⟨by omega, by unfold maxLen; omega⟩, fun v => ⟨by omega, Goes.le ⟨⟨j + 1, w, v, glueR nm (G.length + 1 + N) vs1 vs⟩, ⟨hlt, (by first | omega | (simp only; omega))⟩, rfl⟩ (by simp +contextual -dsimp only [↓SD, SU, SB, Nat.reduceAdd, Nat.reduceBEq, Nat.reduceEqDiff, Nat.reduceLeDiff, Nat.reduceLT, Nat.reduceSub, ↓reduceIte, zA, zI, zN, reduceCtorEq, Int.reduceToNat, zE, Int.natCast_add, hpx]) ?_⟩⟩
      rw [hsn, (hgl vs1).1, (hgl vs1).2, ← List.append_assoc, ← hQ, hks]
      simp +contextual -dsimp (maxSteps := 2000000) only [↓SD, SU, SB, Nat.reduceAdd, Nat.reduceBEq, Nat.reduceEqDiff, Nat.reduceLeDiff, Nat.reduceLT, Nat.reduceSub, ↓reduceIte, zA, zI, zN, reduceCtorEq, Int.reduceToNat, zE, h29, hlast]
    · obtain rfl : j = ks.length := by omega
      rw [List.take_length]
      have hkp := kidPos_len (G.length + 1) ks
      have hfl := flatXs_len' (G.length + 1) ks
      have hfx : flatX G.length (.mk n ks) = ⟨n.kind, n.n, n.s, kidPos (G.length + 1) ks⟩ :: flatXs (G.length + 1) ks := by rw [flatX]
      have hL : (G ++ [AV.agg [.int .i64 n.kind, .int .i64 n.n, .str n.s, .nils]] ++ ovL nm vs (G.length + 1) (flatXs (G.length + 1) ks)).length = G.length + 1 + pxNs ks := by simp [hfl, ovL_len]; omega
      have hG : (G ++ [AV.agg [.int .i64 n.kind, .int .i64 n.n, .str n.s, .nils]] ++ ovL nm vs (G.length + 1) (flatXs (G.length + 1) ks)).getD G.length .top = .agg [.int .i64 n.kind, .int .i64 n.n, .str n.s, .nils] := by simp [List.getD_eq_getElem?_getD]
      have hS : ∀ x, (G ++ [AV.agg [.int .i64 n.kind, .int .i64 n.n, .str n.s, .nils]] ++ ovL nm vs (G.length + 1) (flatXs (G.length + 1) ks)).set G.length x = G ++ x :: ovL nm vs (G.length + 1) (flatXs (G.length + 1) ks) := fun x => by
        simp [List.set_append]
      have hlt2 : (G.length : Int) < (G.length : Int) + 1 + (pxNs ks : Int) := by omega
      have hlt3 : G.length < G.length + 1 + pxNs ks := by omega
      generalize hX : flatXs (G.length + 1) ks = X at *
      obtain ⟨Q, hQ⟩ : ∃ Q, Q = G ++ [AV.agg [.int .i64 n.kind, .int .i64 n.n, .str n.s, .nils]] ++ ovL nm vs (G.length + 1) X := ⟨_, rfl⟩
      rw [← hQ] at hL hG hS ⊢
      obtain ⟨KP, hKP⟩ : ∃ KP, KP = kidPos (G.length + 1) ks := ⟨_, rfl⟩
      rw [← hKP] at hkp hfx ⊢
      simp +contextual -dsimp (maxSteps := 2000000) only [↓SD, SU, SB, Nat.reduceAdd, Nat.reduceBEq, Nat.reduceEqDiff, Nat.reduceLeDiff, Nat.reduceLT, Nat.reduceSub, ↓reduceIte, zA, zI, zN, reduceCtorEq, Int.reduceToNat, zE, Int.reduceEq, Int.reduceLT, Int.reduceLE, Int.reduceNeg, Int.reduceAdd, Int.reduceSub, Nat.lt_irrefl]
      refine ghost_of (Goes.ren 7 30 (sub (sub nm G.length) 0) (v := b) (n := ks.length) rfl (by rw [hg_ne (by decide)]; exact hg_eq) rfl fun v' => Goes.here ?_)
      obtain ⟨H, hH⟩ : ∃ H, H = ((sub (sub nm G.length) 0, (⟨v', false, 3, 1, KP.map av⟩ : Box)) :: hrest [30] ((29, ⟨a, false, 83, 4, Q⟩) :: (30, ⟨b, false, 3, 1, KP.map av⟩) :: ohL nm vs (G.length + 1) X) : Hp) := ⟨_, rfl⟩
      dsimp only
      rw [← hH]
      have h29 : hget H 29 = some ⟨a, false, 83, 4, Q⟩ := by
        rw [hH, hg_ne (fun e => by have := sub_ge (sub nm G.length) 0; omega), hget_rest_out (by decide), hg_eq]
      have hvs : glueR nm (G.length + 1) vs (fun _ => v') (sub (sub nm G.length) 0) = v' := if_neg (fun ⟨i, hi, hin⟩ => by
        have := hin.sib (InT.up (i := 0) .root)
        omega)
      have hg3 := glueR_hi (nm := nm) (m := G.length + 1) vs (fun _ => v') (G.length + 1) X (Nat.le_refl _)
      have hov : ovL nm (glueR nm (G.length + 1) vs (fun _ => v')) G.length (flatX G.length (.mk n ks)) = .agg [.int .i64 n.kind, .int .i64 n.n, .str n.s, .row (sub (sub nm G.length) 0) v' ks.length] :: ovL nm vs (G.length + 1) X := by
        rw [hfx, ovL, hg3.1, ov_PNode, hvs, ← hkp]
      have hoh : ohL nm (glueR nm (G.length + 1) vs (fun _ => v')) G.length (flatX G.length (.mk n ks)) = (sub (sub nm G.length) 0, ⟨v', false, 3, 1, KP.map av⟩) :: ohL nm vs (G.length + 1) X := by
        rw [hfx, ohL, hg3.2, oh_PNode, oh_ints, hvs]; rfl
      simp +contextual -dsimp (maxSteps := 2000000) only [↓SD, SU, SB, Nat.reduceAdd, Nat.reduceBEq, Nat.reduceEqDiff, Nat.reduceLeDiff, Nat.reduceLT, Nat.reduceSub, ↓reduceIte, zA, zI, zN, reduceCtorEq, Int.reduceToNat, zE, Int.reduceEq, Int.reduceLT, Int.reduceLE, Int.reduceNeg, Int.reduceAdd, Int.reduceSub, h29, hL, hG, hS, hlt2, hlt3, Nat.le_refl]
      refine Goes.post ((29, ⟨a, false, 83, 4, G ++ ovL nm (glueR nm (G.length + 1) vs (fun _ => v')) G.length (flatX G.length (.mk n ks))⟩) :: ohL nm (glueR nm (G.length + 1) vs (fun _ => v')) G.length (flatX G.length (.mk n ks))) ?_
      rw [hov, hoh]
      have hlast : ∀ bx, hpLe ((29, bx) :: H) ((sub (sub nm G.length) 0, ⟨v', false, 3, 1, KP.map av⟩) :: ohL nm vs (G.length + 1) X) := fun bx => by
        refine hpLe_iff.2 fun p hp => ?_
        rcases List.mem_cons.1 hp with e | e
        · subst e
          rw [hg_ne (fun e => by have := sub_ge (sub nm G.length) 0; simp only at e; omega), hH]; exact hg_eq
        · obtain ⟨q, hq0, hq⟩ := ohL_in e
          have hge := hq.ge
          have hne : sub (sub nm G.length) 0 ≠ p.1 := fun e' => by
            have h1 := hq.sib (e' ▸ InT.up (i := 0) .root)
            omega
          rw [hg_ne (by omega), hH, hg_ne hne, hget_rest_out (by simp; omega), hg_ne (by omega), hg_ne (by omega)]
          exact hpLe_iff.1 (ohL_self nm vs _ X) p e
      simp +contextual -dsimp (maxSteps := 2000000) only [↓SD, SU, SB, Nat.reduceAdd, Nat.reduceBEq, Nat.reduceEqDiff, Nat.reduceLeDiff, Nat.reduceLT, Nat.reduceSub, ↓reduceIte, zA, zI, zN, reduceCtorEq, Int.reduceToNat, zE, false_and]
      exact ⟨(by have h := hlast ⟨a, false, 83, 4, G ++ .agg [.int .i64 n.kind, .int .i64 n.n, .str n.s, .row (sub (sub nm G.length) 0) v' ks.length] :: ovL nm vs (G.length + 1) X⟩; rw [hpLe_cons] at h; exact h), a, _, by rw [ec, Nat.add_assoc], by rw [hov, hoh]⟩
theorem ovL_pd (nm : Nat) (vs : Nat → Nat) : ∀ (i : Nat) (l : List PNode), ovL nm vs i l = ovL nm vs i (l.map fun p => (⟨p.kind, p.n, p.s, p.kids⟩ : DNode)) ∧ ohL nm vs i l = ohL nm vs i (l.map fun p => (⟨p.kind, p.n, p.s, p.kids⟩ : DNode))
  | _, [] => ⟨rfl, rfl⟩
  | i, e :: r => by
    obtain ⟨a, b⟩ := ovL_pd nm vs (i + 1) r
    simp only [List.map_cons, ovL, ohL, a, b]
    exact ⟨rfl, rfl⟩
theorem dflat_ov (nm : Nat) (vs : Nat → Nat) (e : Px) : ovL nm vs 0 (flatX 0 e) = ovL nm vs 0 (dflat e) ∧ ohL nm vs 0 (flatX 0 e) = ohL nm vs 0 (dflat e) := ovL_pd nm vs 0 _
theorem dataOfO_ok (nm : Nat) (e : Px) (hb : pxN e ≤ 1048576) : CallsH Try.prog 38 [av e] [] (ToPost nm (⟨dflat e⟩ : Data)) := by
  have C := flatPatO_ok (sub nm 0) e [] .nils [] (.inl ⟨rfl, rfl, rfl⟩) (by simpa using hb)
  unfold FlatPostO at C
  have hp := pxN_pos e
  have hl := dflat_len e
  simp only [List.length_nil, List.nil_append, Nat.zero_add, (dflat_ov _ _ _).1, (dflat_ov _ _ _).2] at C
  rw [← hl] at C
  have hb2 : (dflat e).length ≤ 1048576 := by rw [hl]; exact hb
  have hLn : 1 ≤ (dflat e).length := by rw [hl]; exact hp
  clear hl hp hb
  generalize dflat e = L at *
  refine callsH_goes (Post := fun r hp' => ∃ v vs, r = .agg [.row 24 v L.length] ∧ hp' = (24, ⟨v, false, 78, 4, ovL (sub nm 0) vs 0 L⟩) :: ohL (sub nm 0) vs 0 L) (funH_impl_dataOf_H rfl ?_) ?_
  case refine_2 =>
    rintro r hp' ⟨v, vs, rfl, rfl⟩
    refine Goes.renA 0 0 24 (sub nm 0) (v := v) (n := L.length) rfl rfl hg_eq rfl fun v' => ?_
    obtain ⟨H', hH'⟩ : ∃ H', H' = ((sub nm 0, ⟨v', false, 78, 4, ovL (sub nm 0) vs 0 L⟩) :: hrest [24] ((24, ⟨v, false, 78, 4, ovL (sub nm 0) vs 0 L⟩) :: ohL (sub nm 0) vs 0 L) : Hp) := ⟨_, rfl⟩
    have hle := full_le (α := DNode) (nm := sub nm 0) (j := 24) (l := L) (vs := vs) (by omega) hH'
    dsimp only
    rw [← hH']
    refine Goes.le (t := ⟨[(0, .agg [.row (sub nm 0) v' L.length])], oh (sub nm 0) (glue (sub nm 0) (fun k => if k = sub nm 0 then v' else vs k) vs) L⟩) ?_ (by simp +contextual -dsimp only [↓SD, SU, SB, Nat.reduceAdd, Nat.reduceBEq, Nat.reduceEqDiff, Nat.reduceLeDiff, Nat.reduceLT, Nat.reduceSub, ↓reduceIte, zA, zI, zN, reduceCtorEq, Int.reduceToNat, zE]) hle
    exact ⟨_, by rw [ov_Data]; rw [← (oh_full (nm := sub nm 0) (vs := vs) (v' := v') L).1]; rfl, rfl⟩
  simp +contextual -dsimp (maxSteps := 2000000) only [↓SD, SU, SB, Nat.reduceAdd, Nat.reduceBEq, Nat.reduceEqDiff, Nat.reduceLeDiff, Nat.reduceLT, Nat.reduceSub, ↓reduceIte, zA, zI, zN, reduceCtorEq, Int.reduceToNat, zE, Int.reduceEq, Int.reduceLT, Int.reduceLE, Int.reduceNeg, Int.reduceAdd, Int.reduceSub, ir_impl_dataOf_H, rs_impl_dataOf_H, px_cells, px_pur, px_pur1, px_purA, px_one, px_ok]
  intro u2
  refine aCallH_gen [] C (by simp +contextual -dsimp only [↓SD, SU, SB, Nat.reduceAdd, Nat.reduceBEq, Nat.reduceEqDiff, Nat.reduceLeDiff, Nat.reduceLT, Nat.reduceSub, ↓reduceIte, zA, zI, zN, reduceCtorEq, Int.reduceToNat, zE, px_purA]) ?_
  rintro r hp' ⟨v, vs, rfl, rfl⟩ H hH
  rw [hrest_no] at hH
  obtain ⟨T, hT⟩ : ∃ T, T = ohL (sub nm 0) vs 0 L := ⟨_, rfl⟩
  have hTn : ∀ p ∈ T, 10000 ≤ p.1 := fun p hp => by
    rw [hT] at hp
    obtain ⟨q, _, hq⟩ := ohL_in hp
    exact hq.ge
  have hTs : ∀ (j : Nat) (b : Box) (hp : Hp), j < 10000 → hpLe ((j, b) :: hp) T = hpLe hp T := fun j b hp hj => propext ⟨fun h => hpLe_iff.2 fun p hp' => by
    have h1 := hpLe_iff.1 h p hp'
    have h2 := hTn p hp'
    rwa [hg_ne (by omega)] at h1, fun h => hpLe_iff.2 fun p hp' => by
    have h1 := hpLe_iff.1 h p hp'
    have h2 := hTn p hp'
    rw [hg_ne (by omega)]; exact h1⟩
  have hTT : hpLe T T := by rw [hT]; exact ohL_self _ _ _ _
  have hTk : ∀ q, q < 10000 → hget T q = none := fun q hq => by rw [hT]; exact ohL_far hq
  have hel : ∀ j (h : j < L.length), hget T (sub (sub (sub nm 0) j) 0) = some ⟨vs (sub (sub (sub nm 0) j) 0), false, 3, 1, L[j].kids.map av⟩ := fun j h => by
    have h1 : (sub (sub (sub nm 0) j) 0, (⟨vs (sub (sub (sub nm 0) j) 0), false, 3, 1, L[j].kids.map av⟩ : Box)) ∈ ohL (sub nm 0) vs 0 L := mem_ohL j h (by rw [Nat.zero_add, oh_DNode, oh_ints]; exact List.mem_singleton.2 rfl)
    rw [hT]
    exact hpLe_iff.1 (ohL_self (sub nm 0) vs 0 L) _ h1
  obtain ⟨E, hE⟩ : ∃ E, E = ovL (sub nm 0) vs 0 L := ⟨_, rfl⟩
  have hEl : E.length = L.length := by rw [hE, ovL_len]
  have hEg : ∀ j (h : j < L.length), E.getD j .top = .agg [.int .i64 L[j].kind, .int .i64 L[j].n, .str L[j].s, .row (sub (sub (sub nm 0) j) 0) (vs (sub (sub (sub nm 0) j) 0)) L[j].kids.length] := fun j h => by
    rw [hE, ovL_get _ _ _ h, ov_DNode]
  have h29 : hget H 29 = some ⟨v, false, 83, 4, E⟩ := by rw [hH, hE]; exact hg_eq
  have h2 : hget H 2 = some ⟨u2, false, 33, 1, [.agg [.nils]]⟩ := by
    rw [hH, List.cons_append, hg_ne (by decide), ← hT, hg_app, hTk 2 (by decide)]; rfl
  have hHT : hpLe H T := by
    rw [hH, List.cons_append, ← hT, hTs _ _ _ (by decide)]
    exact hpLe_l hTT
  have hpost : ∀ v', (24, (⟨v', false, 78, 4, E⟩ : Box)) :: T = (24, ⟨v', false, 78, 4, ovL (sub nm 0) vs 0 L⟩) :: ohL (sub nm 0) vs 0 L := fun v' => by rw [hE, hT]
  clear C
  clear hT hE
  simp +contextual -dsimp (maxSteps := 2000000) only [↓SD, SU, SB, Nat.reduceAdd, Nat.reduceBEq, Nat.reduceEqDiff, Nat.reduceLeDiff, Nat.reduceLT, Nat.reduceSub, ↓reduceIte, zA, zI, zN, reduceCtorEq, Int.reduceToNat, zE, Int.reduceEq, Int.reduceLT, Int.reduceLE, Int.reduceNeg, Int.reduceAdd, Int.reduceSub]
  intro u5
  refine aLoop_of (X := Nat × Nat) (fun q => ⟨[(2, .ptr 2 u2 0 0), (5, .ptr 5 u5 0 0), (14, .row 29 v L.length), (15, .int .i64 L.length), (16, .int .i64 q.1)], (2, ⟨u2, false, 33, 1, [.agg [.nils]]⟩) :: (5, ⟨u5, false, 33, 1, [.agg [rowC q.1 q.2]]⟩) :: (29, ⟨v, false, 83, 4, E⟩) :: (rowD q.1 q.2 (E.take q.1) ++ T)⟩) (fun q => q.1 ≤ L.length) (fun q => L.length - q.1) (0, 0) (Nat.zero_le _) (by simp +contextual -dsimp only [↓SD, SU, SB, Nat.reduceAdd, Nat.reduceBEq, Nat.reduceEqDiff, Nat.reduceLeDiff, Nat.reduceLT, Nat.reduceSub, ↓reduceIte, zA, zI, zN, reduceCtorEq, Int.reduceToNat, zE]) (by simp +contextual -dsimp only [↓SD, SU, SB, Nat.reduceAdd, Nat.reduceBEq, Nat.reduceEqDiff, Nat.reduceLeDiff, Nat.reduceLT, Nat.reduceSub, ↓reduceIte, zA, zI, zN, reduceCtorEq, Int.reduceToNat, zE, rowC, rowD, h2, h29, hTs, hHT]) ?_
  rintro ⟨j, u⟩ hj
  dsimp only at hj ⊢
  by_cases hlt : j < L.length
  · have e1 := hEg j hlt
    have hK := hel j hlt
    have hk1 : ¬ j + 1 = 0 := by omega
    have rC1 : ∀ u, rowC (j + 1) u = .row 24 u (j + 1) := fun u => if_neg hk1
    have rD1 : ∀ u es, rowD (j + 1) u es = [(24, ⟨u, false, 78, 4, es⟩)] := fun u es => if_neg hk1
    have ht : E.take (j + 1) = E.take j ++ [E.getD j .top] := by
      have hjE : j < E.length := by omega
      rw [List.take_succ_eq_append_getElem hjE, getD_get hjE]
    have htl : (E.take j).length = j := by simp; omega
    have htt : List.take j (E.take j) = E.take j := List.take_of_length_le (by rw [htl]; exact Nat.le_refl _)
    rw [e1] at ht
    obtain ⟨K, hKK⟩ : ∃ K, K = sub (sub (sub nm 0) j) 0 := ⟨_, rfl⟩
    have hKn : ∀ q, q < 10000 → (q == K) = false := fun q hq => by rw [hKK]; exact low_beq hq
    rw [← hKK] at e1 hK ht
    generalize vs K = vk at *
    generalize L[j] = a at *
    by_cases h0 : j = 0
    · subst h0
      have c0 : ∀ u, rowC 0 u = .nils := fun _ => rfl
      have d0 : ∀ u es, rowD 0 u es = [] := fun _ _ => rfl
      have hlt' : (0 : Int) < L.length := by omega
      rw [c0, d0]
      simp +contextual -dsimp (maxSteps := 2000000) only [↓SD, SU, SB, Nat.reduceAdd, Nat.reduceBEq, Nat.reduceEqDiff, Nat.reduceLeDiff, Nat.reduceLT, Nat.reduceSub, ↓reduceIte, zA, zI, zN, reduceCtorEq, Int.reduceToNat, zE, Int.reduceEq, Int.reduceLT, Int.reduceLE, Int.reduceNeg, Int.reduceAdd, Int.reduceSub, hlt, hlt', hEl, e1, hKn, hK, false_and]
      intro u7
      refine ⟨⟨by omega, by unfold maxLen; omega⟩, fun w => ?_⟩
      simp only [List.take_zero, List.map_nil, List.nil_append, Nat.zero_add] at ht rC1 rD1
      exact Goes.le ⟨(1, w), ⟨hlt, (by first | omega | (simp only; omega))⟩, rfl⟩ (by simp +contextual -dsimp only [↓SD, SU, SB, Nat.reduceAdd, Nat.reduceBEq, Nat.reduceEqDiff, Nat.reduceLeDiff, Nat.reduceLT, Nat.reduceSub, ↓reduceIte, zA, zI, zN, reduceCtorEq, Int.reduceToNat, zE]) (by simp +contextual -dsimp only [↓SD, SU, SB, Nat.reduceAdd, Nat.reduceBEq, Nat.reduceEqDiff, Nat.reduceLeDiff, Nat.reduceLT, Nat.reduceSub, ↓reduceIte, zA, zI, zN, reduceCtorEq, Int.reduceToNat, zE, rC1, rD1, ht, hTs, hTT])
    · have rC : ∀ u, rowC j u = .row 24 u j := fun u => if_neg h0
      have rD : ∀ u es, rowD j u es = [(24, ⟨u, false, 78, 4, es⟩)] := fun u es => if_neg h0
      rw [rC, rD]
      generalize E.take j = G at *
      simp +contextual -dsimp (maxSteps := 2000000) only [↓SD, SU, SB, Nat.reduceAdd, Nat.reduceBEq, Nat.reduceEqDiff, Nat.reduceLeDiff, Nat.reduceLT, Nat.reduceSub, ↓reduceIte, zA, zI, zN, reduceCtorEq, Int.reduceToNat, zE, Int.reduceEq, Int.reduceLT, Int.reduceLE, Int.reduceNeg, Int.reduceAdd, Int.reduceSub, hlt, hEl, e1, hKn, hK, htl, htt, false_and]
      intro u7
      refine ⟨⟨by omega, by unfold maxLen; omega⟩, fun w => ⟨by omega, ?_⟩⟩
      exact Goes.le ⟨(j + 1, w), ⟨hlt, (by first | omega | (simp only; omega))⟩, rfl⟩ (by simp +contextual -dsimp only [↓SD, SU, SB, Nat.reduceAdd, Nat.reduceBEq, Nat.reduceEqDiff, Nat.reduceLeDiff, Nat.reduceLT, Nat.reduceSub, ↓reduceIte, zA, zI, zN, reduceCtorEq, Int.reduceToNat, zE, Int.natCast_add]) (by simp +contextual -dsimp only [↓SD, SU, SB, Nat.reduceAdd, Nat.reduceBEq, Nat.reduceEqDiff, Nat.reduceLeDiff, Nat.reduceLT, Nat.reduceSub, ↓reduceIte, zA, zI, zN, reduceCtorEq, Int.reduceToNat, zE, rC1, rD1, ht, hTs, hTT])
  · obtain rfl : j = L.length := by omega
    have h0 : ¬ L.length = 0 := by omega
    have rC : ∀ u, rowC L.length u = .row 24 u L.length := fun u => if_neg h0
    have rD : ∀ u es, rowD L.length u es = [(24, ⟨u, false, 78, 4, es⟩)] := fun u es => if_neg h0
    have t0 : List.take L.length E = E := List.take_of_length_le (by omega)
    rw [rC, rD, t0]
    simp +contextual -dsimp (maxSteps := 2000000) only [↓SD, SU, SB, Nat.reduceAdd, Nat.reduceBEq, Nat.reduceEqDiff, Nat.reduceLeDiff, Nat.reduceLT, Nat.reduceSub, ↓reduceIte, zA, zI, zN, reduceCtorEq, Int.reduceToNat, zE, Int.reduceEq, Int.reduceLT, Int.reduceLE, Int.reduceNeg, Int.reduceAdd, Int.reduceSub, Nat.lt_irrefl, Nat.le_refl]
    refine Goes.post ((24, ⟨u, false, 78, 4, E⟩) :: T) ?_
    simp +contextual -dsimp (maxSteps := 2000000) only [↓SD, SU, SB, Nat.reduceAdd, Nat.reduceBEq, Nat.reduceEqDiff, Nat.reduceLeDiff, Nat.reduceLT, Nat.reduceSub, ↓reduceIte, zA, zI, zN, reduceCtorEq, Int.reduceToNat, zE, false_and, hTs, hTT]
    exact ⟨u, vs, rfl, hpost u⟩
end Go.Proofs.Ytfdkgbejhdmpbaa
