/-
  Hit OF THE PROGRAM, its result in rows of its own, by its abstract text. Conditions: none.
-/
import Derived.Test.YtfdkgbejhdmpbaaFlatO
import Derived.Test.YtfdkgbejhdmpbaaHitS
set_option linter.unusedVariables false
set_option linter.unusedSimpArgs false
set_option maxRecDepth 100000
namespace Go.Proofs.Ytfdkgbejhdmpbaa
open Go.RowKit Go.Proofs.Ytfdkgbejhdmpbaa.Av Go.Proofs.Ytfdkgbejhdmpbaa.Ml
open Go.Proofs.Ytfdkgbejhdmpbaa.Av.AVal (av)
open OVal (ov oh on)

theorem goes_bind {s : St} {T T' : St → Prop} (h : Goes s T') (h' : ∀ u, T' u → Goes u T) : Goes s T := ⟨fun E nt a w hr => let ⟨u, hT, hu⟩ := h.run E nt a w hr; (h' u hT).run E nt a w hu⟩
theorem goes_less {s : St} {T : St → Prop} (t : St) (h1 : frLe s.fr t.fr) (h2 : hpLe s.hp t.hp) (h : Goes t T) : Goes s T := goes_bind (Goes.le (T := fun u => u = t) rfl h1 h2) fun u hu => hu ▸ h
/-- the values that a pattern binds -/
def hitL (q : List PNode) (d : List DNode) : List Data := (hitO q d).getD []
theorem hitL_none {q : List PNode} {d : List DNode} (h : hitO q d = none) : hitL q d = [] ∧ hitB q d = false := by simp [hitL, hitB, h]
theorem hitL_some {q : List PNode} {d : List DNode} {l : List Data} (h : hitO q d = some l) : hitL q d = l ∧ hitB q d = true := by simp [hitL, hitB, h]
def HitOPost (nm : Nat) (l : List Data) (b : Bool) (r : AV) (hp' : Hp) : Prop := ∃ vs, r = .tup [ov nm vs l, .bool b] ∧ hp' = oh nm vs l
theorem hitO_nil (nm : Nat) (b : Bool) (u : Nat) : HitOPost nm [] b (.tup [.row nm u 0, .bool b]) [(nm, ⟨u, false, 33, 1, []⟩)] := ⟨fun _ => u, rfl, rfl⟩
structure HoS where
  j : Nat
  u : Nat
  vs : Nat → Nat
theorem implHitO_ok (nm : Nat) (q : List PNode) (d : List DNode) (hq : Bulk.bulk q ≤ 1048576) (hd : Bulk.bulk d ≤ 1048576) : CallsH Try.prog 16 [.agg [.sl (q.map av)], .agg [.sl (d.map av)]] [] (HitOPost nm (hitL q d) (hitB q d)) := by
  refine funH_impl_Hit_H rfl ?_
  have CP := implPatOk_ok q hq
  have CD := implDataOk_ok d hd
  have no : ¬ (patB q = true ∧ dataB d = true) → hitO q d = none := fun h => if_neg h
  by_cases hp : patB q = true
  case neg =>
    obtain ⟨e1, e2⟩ := hitL_none (no (fun h => hp h.1))
    rw [e1, e2]
    have hp' : patB q = false := by simpa using hp
    rw [hp'] at CP
    simp +contextual -dsimp (maxSteps := 2000000) only [↓SD, SU, SB, Nat.reduceAdd, Nat.reduceBEq, Nat.reduceEqDiff, Nat.reduceLeDiff, Nat.reduceLT, Nat.reduceSub, ↓reduceIte, zA, zI, zN, reduceCtorEq, Int.reduceToNat, zE, Int.reduceEq, Int.reduceLT, Int.reduceLE, Int.reduceNeg, Int.reduceAdd, Int.reduceSub, ir_impl_Hit_H, rs_impl_Hit_H]
    refine aCallK_of _ CP ?_
    simp +contextual -dsimp (maxSteps := 2000000) only [↓SD, SU, SB, Nat.reduceAdd, Nat.reduceBEq, Nat.reduceEqDiff, Nat.reduceLeDiff, Nat.reduceLT, Nat.reduceSub, ↓reduceIte, zA, zI, zN, reduceCtorEq, Int.reduceToNat, zE, Int.reduceEq, Int.reduceLT, Int.reduceLE, Int.reduceNeg, Int.reduceAdd, Int.reduceSub]
    refine Goes.new 4 nm 33 1 rfl fun u => ?_
    refine Goes.post [(nm, ⟨u, false, 33, 1, []⟩)] ?_
    simp +contextual -dsimp (maxSteps := 2000000) only [↓SD, SU, SB, Nat.reduceAdd, Nat.reduceBEq, Nat.reduceEqDiff, Nat.reduceLeDiff, Nat.reduceLT, Nat.reduceSub, ↓reduceIte, zA, zI, zN, reduceCtorEq, Int.reduceToNat, zE, hg_eq]
    exact hitO_nil nm false u
  rw [hp] at CP
  by_cases hv : dataB d = true
  case neg =>
    obtain ⟨e1, e2⟩ := hitL_none (no (fun h => hv h.2))
    rw [e1, e2]
    have hv' : dataB d = false := by simpa using hv
    rw [hv'] at CD
    simp +contextual -dsimp (maxSteps := 2000000) only [↓SD, SU, SB, Nat.reduceAdd, Nat.reduceBEq, Nat.reduceEqDiff, Nat.reduceLeDiff, Nat.reduceLT, Nat.reduceSub, ↓reduceIte, zA, zI, zN, reduceCtorEq, Int.reduceToNat, zE, Int.reduceEq, Int.reduceLT, Int.reduceLE, Int.reduceNeg, Int.reduceAdd, Int.reduceSub, ir_impl_Hit_H, rs_impl_Hit_H]
    refine aCallK_of _ CP ?_
    simp +contextual -dsimp (maxSteps := 2000000) only [↓SD, SU, SB, Nat.reduceAdd, Nat.reduceBEq, Nat.reduceEqDiff, Nat.reduceLeDiff, Nat.reduceLT, Nat.reduceSub, ↓reduceIte, zA, zI, zN, reduceCtorEq, Int.reduceToNat, zE, Int.reduceEq, Int.reduceLT, Int.reduceLE, Int.reduceNeg, Int.reduceAdd, Int.reduceSub]
    refine aCallK_of _ CD ?_
    simp +contextual -dsimp (maxSteps := 2000000) only [↓SD, SU, SB, Nat.reduceAdd, Nat.reduceBEq, Nat.reduceEqDiff, Nat.reduceLeDiff, Nat.reduceLT, Nat.reduceSub, ↓reduceIte, zA, zI, zN, reduceCtorEq, Int.reduceToNat, zE, Int.reduceEq, Int.reduceLT, Int.reduceLE, Int.reduceNeg, Int.reduceAdd, Int.reduceSub]
    refine Goes.new 4 nm 33 1 rfl fun u => ?_
    refine Goes.post [(nm, ⟨u, false, 33, 1, []⟩)] ?_
    simp +contextual -dsimp (maxSteps := 2000000) only [↓SD, SU, SB, Nat.reduceAdd, Nat.reduceBEq, Nat.reduceEqDiff, Nat.reduceLeDiff, Nat.reduceLT, Nat.reduceSub, ↓reduceIte, zA, zI, zN, reduceCtorEq, Int.reduceToNat, zE, hg_eq]
    exact hitO_nil nm false u
  rw [hv] at CD
  have ho : hitO q d = (hitX (ptree q 0) (dtree d 0)).map fun l => l.map fun x => ⟨dflat x⟩ := if_pos ⟨hp, hv⟩
  obtain ⟨pl, pt, _⟩ := patB_at hp
  obtain ⟨dl, dt⟩ := dataB_at hv
  have hpk : ∀ i, i < q.length → ∀ k ∈ pkids q i, (i : Int) < k ∧ k < q.length := fun i hi k hk => tree_in pt hi hk
  have hdk : ∀ i, i < d.length → ∀ k ∈ dkids d i, (i : Int) < k ∧ k < d.length := fun i hi k hk => tree_in dt hi hk
  have G1 := growPatH_ok q hpk hq q.length 0 (by omega) (by omega)
  have G2 := growDataH_ok d hdk hd d.length 0 (by omega) (by omega)
  have s1 : pxN (ptree q 0) = q.length := tree_size pt hpk (by omega)
  have s2 : pxN (dtree d 0) = d.length := tree_size dt hdk (by omega)
  unfold ptree at s1 ho
  unfold dtree at s2 ho
  generalize growX (phd q) (pkids q) q.length 0 = t at *
  generalize growX (dhd d) (dkids d) d.length 0 = e at *
  have CH := hit_ok t e [] .nils [] (.inl ⟨rfl, rfl, rfl⟩) (by simp only [List.length_nil]; omega)
  have hpart := hitX_part t e
  have hlen := hitX_len t e
  unfold HitPost at CH
  simp only [List.nil_append] at CH
  simp +contextual -dsimp (maxSteps := 2000000) only [↓SD, SU, SB, Nat.reduceAdd, Nat.reduceBEq, Nat.reduceEqDiff, Nat.reduceLeDiff, Nat.reduceLT, Nat.reduceSub, ↓reduceIte, zA, zI, zN, reduceCtorEq, Int.reduceToNat, zE, Int.reduceEq, Int.reduceLT, Int.reduceLE, Int.reduceNeg, Int.reduceAdd, Int.reduceSub, ir_impl_Hit_H, rs_impl_Hit_H]
  refine aCallK_of _ CP ?_
  simp +contextual -dsimp (maxSteps := 2000000) only [↓SD, SU, SB, Nat.reduceAdd, Nat.reduceBEq, Nat.reduceEqDiff, Nat.reduceLeDiff, Nat.reduceLT, Nat.reduceSub, ↓reduceIte, zA, zI, zN, reduceCtorEq, Int.reduceToNat, zE, Int.reduceEq, Int.reduceLT, Int.reduceLE, Int.reduceNeg, Int.reduceAdd, Int.reduceSub]
  refine aCallK_of _ CD ?_
  simp +contextual -dsimp (maxSteps := 2000000) only [↓SD, SU, SB, Nat.reduceAdd, Nat.reduceBEq, Nat.reduceEqDiff, Nat.reduceLeDiff, Nat.reduceLT, Nat.reduceSub, ↓reduceIte, zA, zI, zN, reduceCtorEq, Int.reduceToNat, zE, Int.reduceEq, Int.reduceLT, Int.reduceLE, Int.reduceNeg, Int.reduceAdd, Int.reduceSub]
  refine aCallK_of _ G1 ?_
  simp +contextual -dsimp (maxSteps := 2000000) only [↓SD, SU, SB, Nat.reduceAdd, Nat.reduceBEq, Nat.reduceEqDiff, Nat.reduceLeDiff, Nat.reduceLT, Nat.reduceSub, ↓reduceIte, zA, zI, zN, reduceCtorEq, Int.reduceToNat, zE, Int.reduceEq, Int.reduceLT, Int.reduceLE, Int.reduceNeg, Int.reduceAdd, Int.reduceSub]
  refine aCallK_of _ G2 ?_
  simp +contextual -dsimp (maxSteps := 2000000) only [↓SD, SU, SB, Nat.reduceAdd, Nat.reduceBEq, Nat.reduceEqDiff, Nat.reduceLeDiff, Nat.reduceLT, Nat.reduceSub, ↓reduceIte, zA, zI, zN, reduceCtorEq, Int.reduceToNat, zE, Int.reduceEq, Int.reduceLT, Int.reduceLE, Int.reduceNeg, Int.reduceAdd, Int.reduceSub, px_purA]
  refine aCallH_of [] CH (by simp +contextual -dsimp only [↓SD, SU, SB, Nat.reduceAdd, Nat.reduceBEq, Nat.reduceEqDiff, Nat.reduceLeDiff, Nat.reduceLT, Nat.reduceSub, ↓reduceIte, zA, zI, zN, reduceCtorEq, Int.reduceToNat, zE, px_purA]) ?_
  rintro r hp' hr
  cases hh : hitX t e with
  | none =>
    rw [hh] at hr ho
    obtain ⟨e1, e2⟩ := hitL_none ho
    rw [e1, e2]
    obtain ⟨rfl, rfl⟩ := hr
    simp +contextual -dsimp (maxSteps := 2000000) only [↓SD, SU, SB, Nat.reduceAdd, Nat.reduceBEq, Nat.reduceEqDiff, Nat.reduceLeDiff, Nat.reduceLT, Nat.reduceSub, ↓reduceIte, zA, zI, zN, reduceCtorEq, Int.reduceToNat, zE, Int.reduceEq, Int.reduceLT, Int.reduceLE, Int.reduceNeg, Int.reduceAdd, Int.reduceSub]
    refine Goes.new 4 nm 33 1 rfl fun u => ?_
    refine Goes.post [(nm, ⟨u, false, 33, 1, []⟩)] ?_
    simp +contextual -dsimp (maxSteps := 2000000) only [↓SD, SU, SB, Nat.reduceAdd, Nat.reduceBEq, Nat.reduceEqDiff, Nat.reduceLeDiff, Nat.reduceLT, Nat.reduceSub, ↓reduceIte, zA, zI, zN, reduceCtorEq, Int.reduceToNat, zE, hg_eq]
    exact hitO_nil nm false u
  | some l =>
    rw [hh] at hr ho
    simp only [Option.map_some] at ho
    obtain ⟨e1, e2⟩ := hitL_some ho
    rw [e1, e2]
    obtain ⟨x, hx, rfl⟩ := hr
    have hll := hlen l hh
    have hpl := hpart l hh
    rcases hx with ⟨rfl, rfl, rfl⟩ | ⟨v, rfl, rfl⟩
    · simp +contextual -dsimp (maxSteps := 2000000) only [↓SD, SU, SB, Nat.reduceAdd, Nat.reduceBEq, Nat.reduceEqDiff, Nat.reduceLeDiff, Nat.reduceLT, Nat.reduceSub, ↓reduceIte, zA, zI, zN, reduceCtorEq, Int.reduceToNat, zE, Int.reduceEq, Int.reduceLT, Int.reduceLE, Int.reduceNeg, Int.reduceAdd, Int.reduceSub]
      intro u
      refine aLoop_of (X := Unit) (fun _ => ⟨[(8, .row 31 u 0), (32, .nils), (33, .int .i64 0), (34, .int .i64 0)], [(31, ⟨u, false, 33, 1, []⟩)]⟩) (fun _ => True) (fun _ => 0) () trivial (by simp +contextual -dsimp only [↓SD, SU, SB, Nat.reduceAdd, Nat.reduceBEq, Nat.reduceEqDiff, Nat.reduceLeDiff, Nat.reduceLT, Nat.reduceSub, ↓reduceIte, zA, zI, zN, reduceCtorEq, Int.reduceToNat, zE]) (by simp +contextual -dsimp only [↓SD, SU, SB, Nat.reduceAdd, Nat.reduceBEq, Nat.reduceEqDiff, Nat.reduceLeDiff, Nat.reduceLT, Nat.reduceSub, ↓reduceIte, zA, zI, zN, reduceCtorEq, Int.reduceToNat, zE]) ?_
      rintro _ _
      simp +contextual -dsimp (maxSteps := 2000000) only [↓SD, SU, SB, Nat.reduceAdd, Nat.reduceBEq, Nat.reduceEqDiff, Nat.reduceLeDiff, Nat.reduceLT, Nat.reduceSub, ↓reduceIte, zA, zI, zN, reduceCtorEq, Int.reduceToNat, zE, Int.reduceEq, Int.reduceLT, Int.reduceLE, Int.reduceNeg, Int.reduceAdd, Int.reduceSub]
      refine Goes.ren 4 31 nm (v := u) (n := 0) rfl hg_eq rfl fun v' => ?_
      refine Goes.post [(nm, ⟨v', false, 33, 1, []⟩)] ?_
      simp +contextual -dsimp (maxSteps := 2000000) only [↓SD, SU, SB, Nat.reduceAdd, Nat.reduceBEq, Nat.reduceEqDiff, Nat.reduceLeDiff, Nat.reduceLT, Nat.reduceSub, ↓reduceIte, zA, zI, zN, reduceCtorEq, Int.reduceToNat, zE, hg_eq]
      exact hitO_nil nm true v'
    · obtain ⟨DL, hDL⟩ : ∃ DL, DL = l.map fun x => (⟨dflat x⟩ : Data) := ⟨_, rfl⟩
      have hDl : DL.length = l.length := by rw [hDL, List.length_map]
      have hDg : ∀ j (h : j < l.length), DL[j]'(by omega) = (⟨dflat l[j]⟩ : Data) := fun j h => by simp [hDL]
      rw [← hDL]
      simp +contextual -dsimp (maxSteps := 2000000) only [↓SD, SU, SB, Nat.reduceAdd, Nat.reduceBEq, Nat.reduceEqDiff, Nat.reduceLeDiff, Nat.reduceLT, Nat.reduceSub, ↓reduceIte, zA, zI, zN, reduceCtorEq, Int.reduceToNat, zE, Int.reduceEq, Int.reduceLT, Int.reduceLE, Int.reduceNeg, Int.reduceAdd, Int.reduceSub]
      intro u
      refine aLoop_of (X := HoS) (fun s => ⟨[(8, .row 31 s.u s.j), (32, .row 24 v l.length), (33, .int .i64 l.length), (34, .int .i64 s.j)], (31, ⟨s.u, false, 33, 1, ovL nm s.vs 0 (DL.take s.j)⟩) :: (24, ⟨v, false, 67, 1, l.map av⟩) :: ohL nm s.vs 0 (DL.take s.j)⟩) (fun s => s.j ≤ l.length) (fun s => l.length - s.j) ⟨0, u, fun _ => 0⟩ (Nat.zero_le _) (by simp +contextual -dsimp only [↓SD, SU, SB, Nat.reduceAdd, Nat.reduceBEq, Nat.reduceEqDiff, Nat.reduceLeDiff, Nat.reduceLT, Nat.reduceSub, ↓reduceIte, zA, zI, zN, reduceCtorEq, Int.reduceToNat, zE]) (by simp +contextual -dsimp only [↓SD, SU, SB, Nat.reduceAdd, Nat.reduceBEq, Nat.reduceEqDiff, Nat.reduceLeDiff, Nat.reduceLT, Nat.reduceSub, ↓reduceIte, zA, zI, zN, reduceCtorEq, Int.reduceToNat, zE, List.take_zero, List.map_nil, ovL, ohL]) ?_
      rintro ⟨j, u, vs⟩ hj
      dsimp only at hj ⊢
      have hDt : (DL.take j).length = j := by simp; omega
      by_cases hlt : j < l.length
      · have e1 := getD_map av l j .top hlt
        have hb := hpl l[j] (List.getElem_mem hlt)
        have CO := dataOfO_ok (sub nm j) l[j] (by omega)
        have hd1 : DL.take (j + 1) = DL.take j ++ [(⟨dflat l[j]⟩ : Data)] := by rw [List.take_succ_eq_append_getElem (by omega), hDg j hlt]
        obtain ⟨D, hD⟩ : ∃ D, D = (⟨dflat l[j]⟩ : Data) := ⟨_, rfl⟩
        rw [← hD] at CO hd1
        have hvl : (ovL nm vs 0 (DL.take j)).length = j := by rw [ovL_len, hDt]
        have hvt : List.take j (ovL nm vs 0 (DL.take j)) = ovL nm vs 0 (DL.take j) := List.take_of_length_le (by omega)
        have hgl := fun v1 => glueR_app (nm := nm) v1 vs 0 (DL.take j) [D]
        rw [hDt, Nat.zero_add] at hgl
        obtain ⟨Q, hQ⟩ : ∃ Q, Q = ovL nm vs 0 (DL.take j) := ⟨_, rfl⟩
        rw [← hQ] at hvl hvt ⊢
        simp +contextual -dsimp (maxSteps := 2000000) only [↓SD, SU, SB, Nat.reduceAdd, Nat.reduceBEq, Nat.reduceEqDiff, Nat.reduceLeDiff, Nat.reduceLT, Nat.reduceSub, ↓reduceIte, zA, zI, zN, reduceCtorEq, Int.reduceToNat, zE, Int.reduceEq, Int.reduceLT, Int.reduceLE, Int.reduceNeg, Int.reduceAdd, Int.reduceSub, hlt, map_len, e1, px_cells, px_pur, px_pur1, px_purA, px_one, px_ok]
        refine aCallH_gen [] CO (by simp +contextual -dsimp only [↓SD, SU, SB, Nat.reduceAdd, Nat.reduceBEq, Nat.reduceEqDiff, Nat.reduceLeDiff, Nat.reduceLT, Nat.reduceSub, ↓reduceIte, zA, zI, zN, reduceCtorEq, Int.reduceToNat, zE, px_purA]) ?_
        rintro r hp' ⟨v1, rfl, rfl⟩ H hH
        rw [hrest_no] at hH
        have h31 : hget H 31 = some ⟨u, false, 33, 1, Q⟩ := by rw [hH, hg_app_r (oh_ne fun h' => by have := h'.ge; omega)]; exact hg_eq
        have h24 : hget H 24 = some ⟨v, false, 67, 1, l.map av⟩ := by rw [hH, hg_app_r (oh_ne fun h' => by have := h'.ge; omega), hg_ne (by decide)]; exact hg_eq
        have hroot := hpLe_root (H := H) (K := sub (sub nm j) 0) (vs := v1) (l := D.nodes) (by rw [hH]; exact hpLe_l (OVal.self (sub nm j) v1 D))
        have hlast : ∀ bx, hpLe ((31, bx) :: H) (ohL nm vs 0 (DL.take j) ++ oh (sub nm j) v1 D) := fun bx => by
          have h1 := parts_app (nm := nm) (vs := v1) (vs' := vs) (a := DL.take j) (b := [D]) (i := 0) (m := j) (s := (31, ⟨u, false, 33, 1, Q⟩) :: (24, ⟨v, false, 67, 1, l.map av⟩) :: ohL nm vs 0 (DL.take j)) (by omega) (fun p hp => by
            obtain ⟨q, _, hq⟩ := ohL_in hp
            have hge := hq.ge
            rw [hg_ne (by omega), hg_ne (by omega)]
            exact hpLe_iff.1 (ohL_self nm vs _ _) p hp)
          simp only [ohL, List.append_nil] at h1
          rw [← hH] at h1
          refine hpLe_iff.2 fun p hp => ?_
          have hge : 10000 ≤ p.1 := by
            rcases List.mem_append.1 hp with h | h
            · obtain ⟨q, _, hq⟩ := ohL_in h; exact hq.ge
            · exact (OVal.inh h).ge
          rw [hg_ne (by omega)]
          exact hpLe_iff.1 h1 p hp
        simp +contextual -dsimp (maxSteps := 2000000) only [↓SD, SU, SB, Nat.reduceAdd, Nat.reduceBEq, Nat.reduceEqDiff, Nat.reduceLeDiff, Nat.reduceLT, Nat.reduceSub, ↓reduceIte, zA, zI, zN, reduceCtorEq, Int.reduceToNat, zE, Int.reduceEq, Int.reduceLT, Int.reduceLE, Int.reduceNeg, Int.reduceAdd, Int.reduceSub, h31, ov_Data, hvl, hvt, low_beq, hroot, false_and]
        have hgv : ovL nm (glueR nm j v1 vs) 0 (DL.take (j + 1)) = Q ++ [.agg [.row (sub (sub nm j) 0) (v1 (sub (sub nm j) 0)) D.nodes.length]] := by
          rw [hd1, (hgl v1).1, ← hQ]; rfl
        have hgh : ohL nm (glueR nm j v1 vs) 0 (DL.take (j + 1)) = ohL nm vs 0 (DL.take j) ++ oh (sub nm j) v1 D := by
          rw [hd1, (hgl v1).2]; simp only [ohL, List.append_nil]
        refine ⟨⟨by omega, by unfold maxLen; omega⟩, fun w => ⟨by omega, Goes.le ⟨⟨j + 1, w, glueR nm j v1 vs⟩, ⟨hlt, (by first | omega | (simp only; omega))⟩, rfl⟩ (by simp +contextual -dsimp only [↓SD, SU, SB, Nat.reduceAdd, Nat.reduceBEq, Nat.reduceEqDiff, Nat.reduceLeDiff, Nat.reduceLT, Nat.reduceSub, ↓reduceIte, zA, zI, zN, reduceCtorEq, Int.reduceToNat, zE, Int.natCast_add]) ?_⟩⟩
        rw [hgv, hgh]
        simp +contextual -dsimp (maxSteps := 2000000) only [↓SD, SU, SB, Nat.reduceAdd, Nat.reduceBEq, Nat.reduceEqDiff, Nat.reduceLeDiff, Nat.reduceLT, Nat.reduceSub, ↓reduceIte, zA, zI, zN, reduceCtorEq, Int.reduceToNat, zE, h24, hlast]
      · obtain rfl : j = l.length := by omega
        have hfull : DL.take l.length = DL := List.take_of_length_le (by omega)
        rw [hfull]
        simp +contextual -dsimp (maxSteps := 2000000) only [↓SD, SU, SB, Nat.reduceAdd, Nat.reduceBEq, Nat.reduceEqDiff, Nat.reduceLeDiff, Nat.reduceLT, Nat.reduceSub, ↓reduceIte, zA, zI, zN, reduceCtorEq, Int.reduceToNat, zE, Int.reduceEq, Int.reduceLT, Int.reduceLE, Int.reduceNeg, Int.reduceAdd, Int.reduceSub, Nat.lt_irrefl]
        refine goes_less ⟨[(4, .row 31 u l.length), (5, .bool true)], (31, ⟨u, false, 33, 1, ovL nm vs 0 DL⟩) :: ohL nm vs 0 DL⟩ (by simp +contextual -dsimp only [↓SD, SU, SB, Nat.reduceAdd, Nat.reduceBEq, Nat.reduceEqDiff, Nat.reduceLeDiff, Nat.reduceLT, Nat.reduceSub, ↓reduceIte, zA, zI, zN, reduceCtorEq, Int.reduceToNat, zE]) ?_ ?_
        · dsimp only
          refine ⟨hg_eq, hpLe_iff.2 fun p hp => ?_⟩
          obtain ⟨q, _, hq⟩ := ohL_in hp
          have hge := hq.ge
          rw [hg_ne (by omega), hg_ne (by omega)]
          exact hpLe_iff.1 (ohL_self nm vs 0 DL) p hp
        refine Goes.ren 4 31 nm (v := u) (n := l.length) rfl hg_eq rfl fun v' => ?_
        obtain ⟨H', hH'⟩ : ∃ H', H' = ((nm, ⟨v', false, 33, 1, ovL nm vs 0 DL⟩) :: hrest [31] ((31, ⟨u, false, 33, 1, ovL nm vs 0 DL⟩) :: ohL nm vs 0 DL) : Hp) := ⟨_, rfl⟩
        have hle := full_le (α := Data) (nm := nm) (j := 31) (l := DL) (vs := vs) (by omega) hH'
        dsimp only
        rw [← hH']
        refine Goes.post (oh nm (glue nm (fun k => if k = nm then v' else vs k) vs) DL) ?_
        have hr : hget H' nm = some ⟨v', false, 33, 1, ovL nm vs 0 DL⟩ := by rw [hH']; exact hg_eq
        simp +contextual -dsimp (maxSteps := 2000000) only [↓SD, SU, SB, Nat.reduceAdd, Nat.reduceBEq, Nat.reduceEqDiff, Nat.reduceLeDiff, Nat.reduceLT, Nat.reduceSub, ↓reduceIte, zA, zI, zN, reduceCtorEq, Int.reduceToNat, zE, hr, false_and]
        exact ⟨hle, _, by rw [(oh_full DL).1, hDl], rfl⟩
/-- what the reference's Hit returns, told as the program's -/
theorem callsF_weak {P : Go.Program} {f : FuncId} {args : List AV} {r r' : AV} (h : CallsF P f args r) (hr : ∀ S w v, VR S w mu0 v r → VR S w mu0 v r') : CallsF P f args r' := ⟨h.1, h.2.1, fun S w vs h1 h2 => (h.2.2 S w vs h1 h2).mono fun e w' ⟨v, he, hv, hb⟩ => ⟨v, he, hr _ _ _ hv, hb⟩⟩
theorem vr_tup_nils {S : Nat → Prop} {w : World} {μ : Mu} {v : Value} {y : AV} (h : VR S w μ v (.tup [.nils, y])) : VR S w μ v (.tup [.sl [], y]) := by
  cases h with
  | tup cs _ hl hh =>
    refine .tup cs _ hl fun i u x p q => ?_
    cases i with
    | zero =>
      simp only [List.getElem?_cons_zero, Option.some.injEq] at q
      subst q
      have := hh 0 u .nils p rfl
      cases this
      exact .sl0 none 0 (Nat.zero_le _)
    | succ i => exact hh (i + 1) u x p q
theorem specHitO_ok (q : List PNode) (d : List DNode) (hq : Bulk.bulk q ≤ 1048576) (hd : Bulk.bulk d ≤ 1048576) (hr : ∀ n ∈ d, -9223372036854775808 ≤ n.n ∧ n.n ≤ 9223372036854775807) : CallsF Try.prog 14 [.agg [.sl (q.map av)], .agg [.sl (d.map av)]] (.tup [.sl ((hitL q d).map av), .bool (hitB q d)]) := by
  refine callsF_weak (specHit_ok q d hq hd hr) fun S w v h => ?_
  unfold hitW at h
  split at h
  · rename_i hb
    cases hh : hitX (ptree q 0) (dtree d 0) with
    | none =>
      have ho : hitO q d = none := by unfold hitO; rw [if_pos hb, hh]; rfl
      rw [(hitL_none ho).1, (hitL_none ho).2]
      rw [hitV_none hh] at h
      exact vr_tup_nils h
    | some l =>
      have ho : hitO q d = some (l.map fun x => ⟨dflat x⟩) := by unfold hitO; rw [if_pos hb, hh]; rfl
      rw [(hitL_some ho).1, (hitL_some ho).2]
      rcases hitV_some hh with ⟨h0, hV⟩ | hV
      · rw [hV] at h
        rw [h0]
        exact vr_tup_nils h
      · rw [hV] at h; exact h
  · rename_i hb
    have ho : hitO q d = none := if_neg hb
    rw [(hitL_none ho).1, (hitL_none ho).2]
    exact vr_tup_nils h
end Go.Proofs.Ytfdkgbejhdmpbaa
