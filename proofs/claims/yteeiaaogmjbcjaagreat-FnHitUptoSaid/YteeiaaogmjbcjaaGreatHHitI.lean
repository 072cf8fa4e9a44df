/-
 Hit OF THE PROGRAM, by its abstract text. Conditions: none.
-/
import Derived.Test.YteeiaaogmjbcjaaGreatHJ43
import Derived.Test.YteeiaaogmjbcjaaGreatHPatOk
set_option linter.unusedVariables false
set_option linter.unusedSimpArgs false
set_option maxRecDepth 100000
namespace Go.Proofs.YteeiaaogmjbcjaaGreat
open Go.RowKit Go.Proofs.YteeiaaogmjbcjaaGreat.Av Go.Proofs.YteeiaaogmjbcjaaGreat.Ml
open Go.Proofs.YteeiaaogmjbcjaaGreat.Av.AVal (av)

def hitO (q : List PNode) (d : List DNode) : Option (List Data) := if patB q = true ∧ dataB d = true then (hitX (ptree q 0) (dtree d 0)).map fun l => l.map fun x => ⟨dflat x⟩ else none
def HitsPost (o : Option (List Data)) (r : AV) (hp' : Hp) : Prop := match o with
 | none => r = .tup [.nils, .bool false] ∧ hp' = []
 | some l => ∃ v, r = .tup [.row 31 v l.length, .bool true] ∧ hp' = [(31, ⟨v, false, 28, 1, l.map av⟩)]
theorem dataB_at {l : List DNode} (h : dataB l = true) : (1 ≤ l.length ∧ l.length ≤ 600) ∧ treeB (dkids l) l.length = true := by
 unfold dataB at h
 simp only [Bool.and_eq_true, decide_eq_true_eq] at h
 exact ⟨by omega, h.1.2⟩
theorem implHit_ok (q : List PNode) (d : List DNode) (hq : Bulk.bulk q ≤ 1048576) (hd : Bulk.bulk d ≤ 1048576) : CallsH Tryz.prog 7 [.agg [.sl (q.map av)], .agg [.sl (d.map av)]] [] (HitsPost (hitO q d)) := by
 refine ir_impl_Hit.H rfl ?_
 have CP := implPatOk_ok q hq
 have CD := implDataOk_ok d hd
 have no : ¬ (patB q = true ∧ dataB d = true) → hitO q d = none := fun h => if_neg h
 by_cases hp : patB q = true
 case neg =>
  rw [no (fun h => hp h.1)]
  have hp' : patB q = false := by simpa using hp
  rw [hp'] at CP
  simp +contextual -dsimp (maxSteps := 2000000) only [↓SD, SU, SB, Nat.reduceAdd, Nat.reduceBEq, Nat.reduceEqDiff, Nat.reduceLeDiff, Nat.reduceLT, Nat.reduceSub, ↓reduceIte, reduceCtorEq, Int.reduceToNat, Int.reduceEq, Int.reduceLT, Int.reduceLE, Int.reduceNeg, Int.reduceAdd, Int.reduceSub, ir_impl_Hit]
  refine aCallK_of _ CP ?_
  simp +contextual -dsimp (maxSteps := 2000000) only [↓SD, SU, SB, Nat.reduceAdd, Nat.reduceBEq, Nat.reduceEqDiff, Nat.reduceLeDiff, Nat.reduceLT, Nat.reduceSub, ↓reduceIte, reduceCtorEq, Int.reduceToNat, Int.reduceEq, Int.reduceLT, Int.reduceLE, Int.reduceNeg, Int.reduceAdd, Int.reduceSub]
  refine Goes.post [] ?_
  simp +contextual -dsimp (maxSteps := 2000000) only [↓SD, SU, SB, Nat.reduceAdd, Nat.reduceBEq, Nat.reduceEqDiff, Nat.reduceLeDiff, Nat.reduceLT, Nat.reduceSub, ↓reduceIte, reduceCtorEq, Int.reduceToNat]
  exact ⟨rfl, rfl⟩
 rw [hp] at CP
 by_cases hv : dataB d = true
 case neg =>
  rw [no (fun h => hv h.2)]
  have hv' : dataB d = false := by simpa using hv
  rw [hv'] at CD
  simp +contextual -dsimp (maxSteps := 2000000) only [↓SD, SU, SB, Nat.reduceAdd, Nat.reduceBEq, Nat.reduceEqDiff, Nat.reduceLeDiff, Nat.reduceLT, Nat.reduceSub, ↓reduceIte, reduceCtorEq, Int.reduceToNat, Int.reduceEq, Int.reduceLT, Int.reduceLE, Int.reduceNeg, Int.reduceAdd, Int.reduceSub, ir_impl_Hit]
  refine aCallK_of _ CP ?_
  simp +contextual -dsimp (maxSteps := 2000000) only [↓SD, SU, SB, Nat.reduceAdd, Nat.reduceBEq, Nat.reduceEqDiff, Nat.reduceLeDiff, Nat.reduceLT, Nat.reduceSub, ↓reduceIte, reduceCtorEq, Int.reduceToNat, Int.reduceEq, Int.reduceLT, Int.reduceLE, Int.reduceNeg, Int.reduceAdd, Int.reduceSub]
  refine aCallK_of _ CD ?_
  simp +contextual -dsimp (maxSteps := 2000000) only [↓SD, SU, SB, Nat.reduceAdd, Nat.reduceBEq, Nat.reduceEqDiff, Nat.reduceLeDiff, Nat.reduceLT, Nat.reduceSub, ↓reduceIte, reduceCtorEq, Int.reduceToNat, Int.reduceEq, Int.reduceLT, Int.reduceLE, Int.reduceNeg, Int.reduceAdd, Int.reduceSub]
  refine Goes.post [] ?_
  simp +contextual -dsimp (maxSteps := 2000000) only [↓SD, SU, SB, Nat.reduceAdd, Nat.reduceBEq, Nat.reduceEqDiff, Nat.reduceLeDiff, Nat.reduceLT, Nat.reduceSub, ↓reduceIte, reduceCtorEq, Int.reduceToNat]
  exact ⟨rfl, rfl⟩
 rw [hv] at CD
 have ho : hitO q d = (hitX (ptree q 0) (dtree d 0)).map fun l => l.map fun x => ⟨dflat x⟩ := if_pos ⟨hp, hv⟩
 obtain ⟨pl, pt, _⟩ := patB_at hp
 obtain ⟨dl, dt⟩ := dataB_at hv
 have hpk : ∀ i, i < q.length → ∀ k ∈ pkids q i, (i : Int) < k ∧ k < q.length := fun i hi k hk => tree_in pt hi hk
 have hdk : ∀ i, i < d.length → ∀ k ∈ dkids d i, (i : Int) < k ∧ k < d.length := fun i hi k hk => tree_in dt hi hk
 have G1 := growPatH_ok q hpk hq q.length 0 (by omega) (by omega)
 have G2 := growDataH_ok d hdk hd d.length 0 (by omega) (by omega)
 have s1 : pxN (ptree q 0) = q.length := tree_size pt hpk (by omega)
 have s2 : pxN (dtree d 0) = d.length := tree_size dt hdk (by omega)
 rw [ho]
 unfold ptree at s1 ⊢
 unfold dtree at s2 ⊢
 generalize growX (phd q) (pkids q) q.length 0 = t at *
 generalize growX (dhd d) (dkids d) d.length 0 = e at *
 have CH := hit_ok t e [] .nils [] (.inl ⟨rfl, rfl, rfl⟩) (by simp only [List.length_nil]; omega)
 have hpart := hitX_part t e
 have hlen := hitX_len t e
 unfold HitPost at CH
 simp only [List.nil_append] at CH
 simp +contextual -dsimp (maxSteps := 2000000) only [↓SD, SU, SB, Nat.reduceAdd, Nat.reduceBEq, Nat.reduceEqDiff, Nat.reduceLeDiff, Nat.reduceLT, Nat.reduceSub, ↓reduceIte, reduceCtorEq, Int.reduceToNat, Int.reduceEq, Int.reduceLT, Int.reduceLE, Int.reduceNeg, Int.reduceAdd, Int.reduceSub, ir_impl_Hit]
 refine aCallK_of _ CP ?_
 simp +contextual -dsimp (maxSteps := 2000000) only [↓SD, SU, SB, Nat.reduceAdd, Nat.reduceBEq, Nat.reduceEqDiff, Nat.reduceLeDiff, Nat.reduceLT, Nat.reduceSub, ↓reduceIte, reduceCtorEq, Int.reduceToNat, Int.reduceEq, Int.reduceLT, Int.reduceLE, Int.reduceNeg, Int.reduceAdd, Int.reduceSub]
 refine aCallK_of _ CD ?_
 simp +contextual -dsimp (maxSteps := 2000000) only [↓SD, SU, SB, Nat.reduceAdd, Nat.reduceBEq, Nat.reduceEqDiff, Nat.reduceLeDiff, Nat.reduceLT, Nat.reduceSub, ↓reduceIte, reduceCtorEq, Int.reduceToNat, Int.reduceEq, Int.reduceLT, Int.reduceLE, Int.reduceNeg, Int.reduceAdd, Int.reduceSub]
 refine aCallK_of _ G1 ?_
 simp +contextual -dsimp (maxSteps := 2000000) only [↓SD, SU, SB, Nat.reduceAdd, Nat.reduceBEq, Nat.reduceEqDiff, Nat.reduceLeDiff, Nat.reduceLT, Nat.reduceSub, ↓reduceIte, reduceCtorEq, Int.reduceToNat, Int.reduceEq, Int.reduceLT, Int.reduceLE, Int.reduceNeg, Int.reduceAdd, Int.reduceSub]
 refine aCallK_of _ G2 ?_
 simp +contextual -dsimp (maxSteps := 2000000) only [↓SD, SU, SB, Nat.reduceAdd, Nat.reduceBEq, Nat.reduceEqDiff, Nat.reduceLeDiff, Nat.reduceLT, Nat.reduceSub, ↓reduceIte, reduceCtorEq, Int.reduceToNat, Int.reduceEq, Int.reduceLT, Int.reduceLE, Int.reduceNeg, Int.reduceAdd, Int.reduceSub, px_purA]
 refine aCallH_of [] CH (by simp +contextual -dsimp only [↓SD, SU, SB, Nat.reduceAdd, Nat.reduceBEq, Nat.reduceEqDiff, Nat.reduceLeDiff, Nat.reduceLT, Nat.reduceSub, ↓reduceIte, reduceCtorEq, Int.reduceToNat, px_purA]) ?_
 rintro r hp' hr
 cases hh : hitX t e with
 | none =>
  rw [hh] at hr
  obtain ⟨rfl, rfl⟩ := hr
  simp +contextual -dsimp (maxSteps := 2000000) only [↓SD, SU, SB, Nat.reduceAdd, Nat.reduceBEq, Nat.reduceEqDiff, Nat.reduceLeDiff, Nat.reduceLT, Nat.reduceSub, ↓reduceIte, reduceCtorEq, Int.reduceToNat, Int.reduceEq, Int.reduceLT, Int.reduceLE, Int.reduceNeg, Int.reduceAdd, Int.reduceSub]
  refine Goes.post [] ?_
  simp +contextual -dsimp (maxSteps := 2000000) only [↓SD, SU, SB, Nat.reduceAdd, Nat.reduceBEq, Nat.reduceEqDiff, Nat.reduceLeDiff, Nat.reduceLT, Nat.reduceSub, ↓reduceIte, reduceCtorEq, Int.reduceToNat]
  exact ⟨rfl, rfl⟩
 | some l =>
  rw [hh] at hr
  obtain ⟨x, hx, rfl⟩ := hr
  have hll := hlen l hh
  have hpl := hpart l hh
  rcases hx with ⟨rfl, rfl, rfl⟩ | ⟨v, rfl, rfl⟩
  ·simp +contextual -dsimp (maxSteps := 2000000) only [↓SD, SU, SB, Nat.reduceAdd, Nat.reduceBEq, Nat.reduceEqDiff, Nat.reduceLeDiff, Nat.reduceLT, Nat.reduceSub, ↓reduceIte, reduceCtorEq, Int.reduceToNat, Int.reduceEq, Int.reduceLT, Int.reduceLE, Int.reduceNeg, Int.reduceAdd, Int.reduceSub]
   intro u
   refine aLoop_of (X := Unit) (fun _ => ⟨[(8, .row 31 u 0), (32, .nils), (33, .int .i64 0), (34, .int .i64 0)], [(31, ⟨u, false, 28, 1, []⟩)]⟩) (fun _ => True) (fun _ => 0) () trivial (by simp +contextual -dsimp only [↓SD, SU, SB, Nat.reduceAdd, Nat.reduceBEq, Nat.reduceEqDiff, Nat.reduceLeDiff, Nat.reduceLT, Nat.reduceSub, ↓reduceIte, reduceCtorEq, Int.reduceToNat]) (by simp +contextual -dsimp only [↓SD, SU, SB, Nat.reduceAdd, Nat.reduceBEq, Nat.reduceEqDiff, Nat.reduceLeDiff, Nat.reduceLT, Nat.reduceSub, ↓reduceIte, reduceCtorEq, Int.reduceToNat]) ?_
   rintro _ _
   simp +contextual -dsimp (maxSteps := 2000000) only [↓SD, SU, SB, Nat.reduceAdd, Nat.reduceBEq, Nat.reduceEqDiff, Nat.reduceLeDiff, Nat.reduceLT, Nat.reduceSub, ↓reduceIte, reduceCtorEq, Int.reduceToNat, Int.reduceEq, Int.reduceLT, Int.reduceLE, Int.reduceNeg, Int.reduceAdd, Int.reduceSub]
   refine Goes.post [(31, ⟨u, false, 28, 1, []⟩)] ?_
   simp +contextual -dsimp (maxSteps := 2000000) only [↓SD, SU, SB, Nat.reduceAdd, Nat.reduceBEq, Nat.reduceEqDiff, Nat.reduceLeDiff, Nat.reduceLT, Nat.reduceSub, ↓reduceIte, reduceCtorEq, Int.reduceToNat, false_and]
   exact ⟨u, rfl, rfl⟩
  ·simp +contextual -dsimp (maxSteps := 2000000) only [↓SD, SU, SB, Nat.reduceAdd, Nat.reduceBEq, Nat.reduceEqDiff, Nat.reduceLeDiff, Nat.reduceLT, Nat.reduceSub, ↓reduceIte, reduceCtorEq, Int.reduceToNat, Int.reduceEq, Int.reduceLT, Int.reduceLE, Int.reduceNeg, Int.reduceAdd, Int.reduceSub]
   intro u
   refine aLoop_of (X := Nat × Nat) (fun s => ⟨[(8, .row 31 s.2 s.1), (32, .row 24 v l.length), (33, .int .i64 l.length), (34, .int .i64 s.1)], [(31, ⟨s.2, false, 28, 1, ((l.take s.1).map fun x => (⟨dflat x⟩ : Data)).map av⟩), (24, ⟨v, false, 73, 1, l.map av⟩)]⟩) (fun s => s.1 ≤ l.length) (fun s => l.length - s.1) (0, u) (Nat.zero_le _) (by simp +contextual -dsimp only [↓SD, SU, SB, Nat.reduceAdd, Nat.reduceBEq, Nat.reduceEqDiff, Nat.reduceLeDiff, Nat.reduceLT, Nat.reduceSub, ↓reduceIte, reduceCtorEq, Int.reduceToNat]) (by simp +contextual -dsimp only [↓SD, SU, SB, Nat.reduceAdd, Nat.reduceBEq, Nat.reduceEqDiff, Nat.reduceLeDiff, Nat.reduceLT, Nat.reduceSub, ↓reduceIte, reduceCtorEq, Int.reduceToNat, List.take_zero, List.map_nil]) ?_
   rintro ⟨j, u⟩ hj
   dsimp only at hj ⊢
   by_cases hlt : j < l.length
   ·have e1 := getD_map av l j .top hlt
    have hb := hpl l[j] (List.getElem_mem hlt)
    have CO := dataOf_ok l[j] (by omega)
    have ht : ((l.take (j + 1)).map fun x => (⟨dflat x⟩ : Data)).map (av : Data → AV) = ((l.take j).map fun x => (⟨dflat x⟩ : Data)).map av ++ [av (⟨dflat l[j]⟩ : Data)] := by rw [List.take_succ_eq_append_getElem hlt, List.map_append, List.map_append]; rfl
    have htl : (((l.take j).map fun x => (⟨dflat x⟩ : Data)).map (av : Data → AV)).length = j := by simp; omega
    have htt : List.take j (((l.take j).map fun x => (⟨dflat x⟩ : Data)).map (av : Data → AV)) = ((l.take j).map fun x => (⟨dflat x⟩ : Data)).map av := List.take_of_length_le (by rw [htl]; exact Nat.le_refl _)
    rw [av_Data] at CO ht
    generalize ((l.take j).map fun x => (⟨dflat x⟩ : Data)).map (av : Data → AV) = G at *
    simp +contextual -dsimp (maxSteps := 2000000) only [↓SD, SU, SB, Nat.reduceAdd, Nat.reduceBEq, Nat.reduceEqDiff, Nat.reduceLeDiff, Nat.reduceLT, Nat.reduceSub, ↓reduceIte, reduceCtorEq, Int.reduceToNat, Int.reduceEq, Int.reduceLT, Int.reduceLE, Int.reduceNeg, Int.reduceAdd, Int.reduceSub, hlt, map_len, e1, px_cells, px_pur, px_pur1, px_purA, px_one, px_ok]
    refine aCallK_of _ CO ?_
    simp +contextual -dsimp (maxSteps := 2000000) only [↓SD, SU, SB, Nat.reduceAdd, Nat.reduceBEq, Nat.reduceEqDiff, Nat.reduceLeDiff, Nat.reduceLT, Nat.reduceSub, ↓reduceIte, reduceCtorEq, Int.reduceToNat, Int.reduceEq, Int.reduceLT, Int.reduceLE, Int.reduceNeg, Int.reduceAdd, Int.reduceSub, htl, htt, map_nop]
    exact ⟨⟨by omega, by unfold maxLen; omega⟩, fun w => ⟨by omega, Goes.le ⟨(j + 1, w), ⟨hlt, (by first | omega | (simp only; omega))⟩, rfl⟩ (by simp +contextual -dsimp only [↓SD, SU, SB, Nat.reduceAdd, Nat.reduceBEq, Nat.reduceEqDiff, Nat.reduceLeDiff, Nat.reduceLT, Nat.reduceSub, ↓reduceIte, reduceCtorEq, Int.reduceToNat, Int.natCast_add]) (by simp +contextual -dsimp only [↓SD, SU, SB, Nat.reduceAdd, Nat.reduceBEq, Nat.reduceEqDiff, Nat.reduceLeDiff, Nat.reduceLT, Nat.reduceSub, ↓reduceIte, reduceCtorEq, Int.reduceToNat, ht])⟩⟩
   ·obtain rfl : j = l.length := by omega
    rw [List.take_length]
    simp +contextual -dsimp (maxSteps := 2000000) only [↓SD, SU, SB, Nat.reduceAdd, Nat.reduceBEq, Nat.reduceEqDiff, Nat.reduceLeDiff, Nat.reduceLT, Nat.reduceSub, ↓reduceIte, reduceCtorEq, Int.reduceToNat, Int.reduceEq, Int.reduceLT, Int.reduceLE, Int.reduceNeg, Int.reduceAdd, Int.reduceSub, Nat.lt_irrefl]
    refine Goes.post [(31, ⟨u, false, 28, 1, (l.map fun x => (⟨dflat x⟩ : Data)).map av⟩)] ?_
    simp +contextual -dsimp (maxSteps := 2000000) only [↓SD, SU, SB, Nat.reduceAdd, Nat.reduceBEq, Nat.reduceEqDiff, Nat.reduceLeDiff, Nat.reduceLT, Nat.reduceSub, ↓reduceIte, reduceCtorEq, Int.reduceToNat, false_and]
    exact ⟨u, by simp, rfl⟩
def hitB (q : List PNode) (d : List DNode) : Bool := (hitO q d).isSome
end Go.Proofs.YteeiaaogmjbcjaaGreat
