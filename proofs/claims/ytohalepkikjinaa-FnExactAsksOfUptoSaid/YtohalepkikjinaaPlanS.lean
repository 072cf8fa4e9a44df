/-
  AsksOf OF THE REFERENCE, by its abstract text. Conditions: none.
-/
import Derived.Test.YtohalepkikjinaaPackU
import Derived.Test.YtohalepkikjinaaPackV
set_option linter.unusedVariables false
set_option linter.unusedSimpArgs false
set_option maxRecDepth 100000
namespace Go.Proofs.Ytohalepkikjinaa
open Go.RowKit Go.Proofs.Ytohalepkikjinaa.Av Go.Proofs.Ytohalepkikjinaa.Ml
open Go.Proofs.Ytohalepkikjinaa.Av.AVal (av)

theorem callsF_weaker {P : Go.Program} {f : FuncId} {args : List AV} {r r' : AV} (h : CallsF P f args r) (hr : ∀ S w v, VR S w mu0 v r → VR S w mu0 v r') : CallsF P f args r' := ⟨h.1, h.2.1, fun S w vs h1 h2 => (h.2.2 S w vs h1 h2).mono fun e w' ⟨v, he, hv, hb⟩ => ⟨v, he, hr _ _ _ hv, hb⟩⟩
def asksV (o : Option (List Ask)) : AV := .tup [av (⟨o.getD []⟩ : Asks), .bool o.isSome]
def asksW (o : Option (List Ask)) : AV := match o with
  | none => .tup [.agg [.nils], .bool false]
  | some a => .tup [av (⟨a⟩ : Asks), .bool true]
theorem av1 {a : AV} (ha : AvPure a) : ∀ x ∈ [a], AvPure x := fun x hx => by rw [List.mem_singleton.1 hx]; exact ha
set_option maxHeartbeats 4000000 in
theorem specAsksW_ok (l : List Pat) (hx : Bulk.bulk l ≤ 1048576) : CallsF Try.prog 5 [.sl (l.map av)] (asksW (asksO l)) := by
  have hpure : AvPure (asksW (asksO l)) := by
    unfold asksW
    split
    · exact AvPure.tup (av2 (AvPure.agg (av1 AvPure.nils)) (AvPure.bool _))
    · exact AvPure.tup (av2 (AVal.clean _) (AvPure.bool _))
  refine fun_spec_AsksOf rfl (av1 (lav_clean l)) hpure ?_
  have hbl := bulk_length l
  obtain ⟨f, hf⟩ : ∃ f : Pat → Px, f = fun q => ptree q.nodes 0 := ⟨_, rfl⟩
  have hO : (∀ q ∈ l, patB q.nodes = true) → l ≠ [] → asksO l = if 400 < (planX (wtR (rowsP 0 (l.map f)) + 1) 0 (rowsP 0 (l.map f))).length then none else some (planX (wtR (rowsP 0 (l.map f)) + 1) 0 (rowsP 0 (l.map f))) := fun h1 h2 => by
    unfold asksO
    rw [if_neg (by
      rintro (h | h)
      · exact h2 h
      · obtain ⟨q, hq, hb⟩ := List.any_eq_true.1 h
        rw [h1 q hq] at hb
        exact absurd hb (by decide)), ← hf]
  have hO2 : (∃ q ∈ l, patB q.nodes = false) → asksO l = none := fun ⟨q, hq, hb⟩ => by
    unfold asksO
    rw [if_pos (.inr (List.any_eq_true.2 ⟨q, hq, by rw [hb]; rfl⟩))]
  have hO3 : l = [] → asksO l = none := fun h => by unfold asksO; rw [if_pos (.inl h)]
  generalize asksO l = O at *
  simp +contextual -dsimp (maxSteps := 2000000) only [↓SD, SU, SB, Nat.reduceAdd, Nat.reduceBEq, Nat.reduceEqDiff, Nat.reduceLeDiff, Nat.reduceLT, Nat.reduceSub, ↓reduceIte, zA, zI, zN, reduceCtorEq, Int.reduceToNat, zE, Int.reduceEq, Int.reduceLT, Int.reduceLE, Int.reduceNeg, Int.reduceAdd, Int.reduceSub, ir_spec_AsksOf, rs_spec_AsksOf, map_len]
  intro u2 u8
  refine aLoop_of (X := PoS) (fun s => ⟨[(2, .ptr 2 u2 0 0), (4, .row 8 s.u s.j), (9, .sl (l.map av)), (10, .int .i64 l.length), (11, .int .i64 s.j)], [(2, ⟨u2, false, 26, 1, [.agg [.nils]]⟩), (8, ⟨s.u, false, 48, 2, ((rowsP 0 ((l.take s.j).map f)).map TrS.mk).map av⟩)]⟩) (fun s => s.j ≤ l.length ∧ ∀ q ∈ l.take s.j, patB q.nodes = true) (fun s => l.length - s.j) ⟨0, u8⟩ ⟨Nat.zero_le _, by simp⟩ (by simp +contextual -dsimp only [↓SD, SU, SB, Nat.reduceAdd, Nat.reduceBEq, Nat.reduceEqDiff, Nat.reduceLeDiff, Nat.reduceLT, Nat.reduceSub, ↓reduceIte, zA, zI, zN, reduceCtorEq, Int.reduceToNat, zE, List.take_zero, List.length_map]) (by simp +contextual -dsimp only [↓SD, SU, SB, Nat.reduceAdd, Nat.reduceBEq, Nat.reduceEqDiff, Nat.reduceLeDiff, Nat.reduceLT, Nat.reduceSub, ↓reduceIte, zA, zI, zN, reduceCtorEq, Int.reduceToNat, zE, List.take_zero, List.map_nil, rowsP]) ?_
  rintro ⟨j, u⟩ ⟨hj, hall⟩
  dsimp only at hj hall ⊢
  by_cases hlt : j < l.length
  · have e1 := getD_map av l j .top hlt
    have hmem : l[j] ∈ l := List.getElem_mem hlt
    have hbq : Bulk.bulk l[j].nodes + 1 + 1 ≤ Bulk.bulk l := bulk_mem hmem
    have CP := specPatOk_ok l[j].nodes (by omega)
    cases hq : patB l[j].nodes with
    | false =>
      have ho := hO2 ⟨_, hmem, hq⟩
      rw [hq] at CP
      rw [ho]
      unfold asksW
      generalize l[j] = q at *
      simp +contextual -dsimp (maxSteps := 2000000) only [↓SD, SU, SB, Nat.reduceAdd, Nat.reduceBEq, Nat.reduceEqDiff, Nat.reduceLeDiff, Nat.reduceLT, Nat.reduceSub, ↓reduceIte, zA, zI, zN, reduceCtorEq, Int.reduceToNat, zE, Int.reduceEq, Int.reduceLT, Int.reduceLE, Int.reduceNeg, Int.reduceAdd, Int.reduceSub, hlt, map_len, e1, av_Pat]
      intro u6
      refine aCallK_of _ CP ?_
      simp +contextual -dsimp (maxSteps := 2000000) only [↓SD, SU, SB, Nat.reduceAdd, Nat.reduceBEq, Nat.reduceEqDiff, Nat.reduceLeDiff, Nat.reduceLT, Nat.reduceSub, ↓reduceIte, zA, zI, zN, reduceCtorEq, Int.reduceToNat, zE, Int.reduceEq, Int.reduceLT, Int.reduceLE, Int.reduceNeg, Int.reduceAdd, Int.reduceSub]
    | true =>
      rw [hq] at CP
      have hps := pat_size hq
      have TQ := callsF_argNil (a := [.agg [.sl (l[j].nodes.map av)], .int .i64 (0 : Nat)]) (b := []) (l17Tests_ok l[j].nodes (by omega) hq l[j].nodes.length 0 [] hps.2.2.1 (by omega) (by simp only [List.length_nil]; omega))
      have ht : rowsP 0 ((l.take (j + 1)).map f) = rowsP 0 ((l.take j).map f) ++ [⟨testsX (ptree l[j].nodes 0) [], (j : Int)⟩] := by
        rw [List.take_succ_eq_append_getElem hlt, List.map_append, List.map_cons, List.map_nil, rowsP_snoc, hf]
        simp [Nat.min_eq_left (Nat.le_of_lt hlt)]
      have hall2 : ∀ q ∈ l.take (j + 1), patB q.nodes = true := fun q hq2 => by
        rw [List.take_succ_eq_append_getElem hlt] at hq2
        rcases List.mem_append.1 hq2 with h | h
        · exact hall q h
        · rw [List.mem_singleton.1 h]; exact hq
      have hRl : (((rowsP 0 ((l.take j).map f)).map TrS.mk).map (av : TrS → AV)).length = j := by rw [List.length_map, List.length_map, rowsP_len]; simp; omega
      have hRt : List.take j (((rowsP 0 ((l.take j).map f)).map TrS.mk).map (av : TrS → AV)) = ((rowsP 0 ((l.take j).map f)).map TrS.mk).map av := List.take_of_length_le (by omega)
      rw [List.cons_append, List.cons_append, List.nil_append] at TQ
      generalize testsX (ptree l[j].nodes 0) [] = TT at *
      generalize l[j] = q at *
      generalize rowsP 0 ((l.take j).map f) = R at *
      simp +contextual -dsimp (maxSteps := 2000000) only [↓SD, SU, SB, Nat.reduceAdd, Nat.reduceBEq, Nat.reduceEqDiff, Nat.reduceLeDiff, Nat.reduceLT, Nat.reduceSub, ↓reduceIte, zA, zI, zN, reduceCtorEq, Int.reduceToNat, zE, Int.reduceEq, Int.reduceLT, Int.reduceLE, Int.reduceNeg, Int.reduceAdd, Int.reduceSub, hlt, map_len, e1, av_Pat]
      intro u6
      refine aCallK_of _ CP ?_
      simp +contextual -dsimp (maxSteps := 2000000) only [↓SD, SU, SB, Nat.reduceAdd, Nat.reduceBEq, Nat.reduceEqDiff, Nat.reduceLeDiff, Nat.reduceLT, Nat.reduceSub, ↓reduceIte, zA, zI, zN, reduceCtorEq, Int.reduceToNat, zE, Int.reduceEq, Int.reduceLT, Int.reduceLE, Int.reduceNeg, Int.reduceAdd, Int.reduceSub]
      refine aCallK_of _ TQ ?_
      simp +contextual -dsimp (maxSteps := 2000000) only [↓SD, SU, SB, Nat.reduceAdd, Nat.reduceBEq, Nat.reduceEqDiff, Nat.reduceLeDiff, Nat.reduceLT, Nat.reduceSub, ↓reduceIte, zA, zI, zN, reduceCtorEq, Int.reduceToNat, zE, Int.reduceEq, Int.reduceLT, Int.reduceLE, Int.reduceNeg, Int.reduceAdd, Int.reduceSub, hRl, hRt]
      exact ⟨⟨by omega, by unfold maxLen; omega⟩, fun u' => ⟨by omega, Goes.le ⟨⟨j + 1, u'⟩, ⟨⟨hlt, hall2⟩, (by first | omega | (simp only; omega))⟩, rfl⟩ (by simp +contextual -dsimp only [↓SD, SU, SB, Nat.reduceAdd, Nat.reduceBEq, Nat.reduceEqDiff, Nat.reduceLeDiff, Nat.reduceLT, Nat.reduceSub, ↓reduceIte, zA, zI, zN, reduceCtorEq, Int.reduceToNat, zE, Int.natCast_add]) (by simp +contextual -dsimp only [↓SD, SU, SB, Nat.reduceAdd, Nat.reduceBEq, Nat.reduceEqDiff, Nat.reduceLeDiff, Nat.reduceLT, Nat.reduceSub, ↓reduceIte, zA, zI, zN, reduceCtorEq, Int.reduceToNat, zE, ht, List.map_append, av_TrS])⟩⟩
  · obtain rfl : j = l.length := by omega
    rw [List.take_length] at hall ⊢
    by_cases h0 : l = []
    · have ho := hO3 h0
      have h00 : (l.length : Int) = 0 := by rw [h0]; rfl
      rw [ho]
      unfold asksW
      simp +contextual -dsimp (maxSteps := 2000000) only [↓SD, SU, SB, Nat.reduceAdd, Nat.reduceBEq, Nat.reduceEqDiff, Nat.reduceLeDiff, Nat.reduceLT, Nat.reduceSub, ↓reduceIte, zA, zI, zN, reduceCtorEq, Int.reduceToNat, zE, Int.reduceEq, Int.reduceLT, Int.reduceLE, Int.reduceNeg, Int.reduceAdd, Int.reduceSub, Nat.lt_irrefl, h00]
    have h00 : ¬ (l.length : Int) = 0 := fun e => h0 (List.eq_nil_of_length_eq_zero (by omega))
    have ho := hO hall h0
    have hwt := rowsP_wt 0 l hall
    have hin := rowsP_in (i := 0) hall
    rw [← hf] at hwt hin
    have hrl : (rowsP 0 (l.map f)).length = l.length := by rw [rowsP_len, List.length_map]
    generalize rowsP 0 (l.map f) = R at *
    obtain ⟨P, hP⟩ : ∃ P, P = planX (wtR R + 1) 0 R := ⟨_, rfl⟩
    have hPl := plan_len (wtR R + 1) 0 R
    have hP1 : 0 < P.length := by
      rw [hP, planX, if_neg (by omega)]
      cases R with
      | nil => simp [planS]
      | cons r rs =>
        rw [planS]
        cases r.tests with
        | nil => simp [planT]
        | cons t ts => simp [planT]
    have CL := l17Lay_ok (wtR R + 1) R [] .nils [] (.inl ⟨rfl, rfl, rfl⟩) (by omega) (by omega) hin (by simp)
    rw [List.nil_append, List.length_nil, ← hP] at CL
    rw [← hP] at ho hPl
    clear hP hO hO2 hO3
    have hRm : ∀ hp, ((R.map TrS.mk).map (av : TrS → AV)).map (AV.pur hp) = (R.map TrS.mk).map av := fun hp => map_nop _ hp
    have hRl : ((R.map TrS.mk).map (av : TrS → AV)).length = l.length := by rw [List.length_map, List.length_map, hrl]
    have hRt : List.take l.length ((R.map TrS.mk).map (av : TrS → AV)) = (R.map TrS.mk).map av := List.take_of_length_le (by omega)
    have hPm : ∀ hp, (P.map (av : Ask → AV)).map (AV.pur hp) = P.map av := fun hp => map_nop _ hp
    have hPL : (P.map (av : Ask → AV)).length = P.length := List.length_map _
    have hPt : List.take P.length (P.map (av : Ask → AV)) = P.map av := List.take_of_length_le (by omega)
    have hPn : ¬ P.map (av : Ask → AV) = [] := fun h => by rw [h] at hPL; simp only [List.length_nil] at hPL; omega
    simp +contextual -dsimp (maxSteps := 2000000) only [↓SD, SU, SB, Nat.reduceAdd, Nat.reduceBEq, Nat.reduceEqDiff, Nat.reduceLeDiff, Nat.reduceLT, Nat.reduceSub, ↓reduceIte, zA, zI, zN, reduceCtorEq, Int.reduceToNat, zE, Int.reduceEq, Int.reduceLT, Int.reduceLE, Int.reduceNeg, Int.reduceAdd, Int.reduceSub, Nat.lt_irrefl, h00]
    refine ghost_of (Goes.frz 8 (Goes.pur 4 (Goes.here ?_)))
    simp +contextual -dsimp (maxSteps := 2000000) only [↓SD, SU, SB, Nat.reduceAdd, Nat.reduceBEq, Nat.reduceEqDiff, Nat.reduceLeDiff, Nat.reduceLT, Nat.reduceSub, ↓reduceIte, zA, zI, zN, reduceCtorEq, Int.reduceToNat, zE, Int.reduceEq, Int.reduceLT, Int.reduceLE, Int.reduceNeg, Int.reduceAdd, Int.reduceSub, hRm, hRl, hRt, Nat.le_refl]
    refine aCallH_of [] CL (by simp +contextual -dsimp only [↓SD, SU, SB, Nat.reduceAdd, Nat.reduceBEq, Nat.reduceEqDiff, Nat.reduceLeDiff, Nat.reduceLT, Nat.reduceSub, ↓reduceIte, zA, zI, zN, reduceCtorEq, Int.reduceToNat, zE]) ?_
    rintro r hp' (⟨h, _, _⟩ | ⟨v, rfl, rfl⟩)
    · exact absurd h hPn
    rw [hPL, ho]
    by_cases hbig : 400 < P.length
    · have hbi : (400 : Int) < (P.length : Int) := by omega
      rw [if_pos hbig]
      unfold asksW
      simp +contextual -dsimp (maxSteps := 2000000) only [↓SD, SU, SB, Nat.reduceAdd, Nat.reduceBEq, Nat.reduceEqDiff, Nat.reduceLeDiff, Nat.reduceLT, Nat.reduceSub, ↓reduceIte, zA, zI, zN, reduceCtorEq, Int.reduceToNat, zE, Int.reduceEq, Int.reduceLT, Int.reduceLE, Int.reduceNeg, Int.reduceAdd, Int.reduceSub, hRm, hRl, hRt, Nat.le_refl, hbi]
    · have hbi : ¬ (400 : Int) < (P.length : Int) := by omega
      rw [if_neg hbig]
      unfold asksW
      simp +contextual -dsimp (maxSteps := 2000000) only [↓SD, SU, SB, Nat.reduceAdd, Nat.reduceBEq, Nat.reduceEqDiff, Nat.reduceLeDiff, Nat.reduceLT, Nat.reduceSub, ↓reduceIte, zA, zI, zN, reduceCtorEq, Int.reduceToNat, zE, Int.reduceEq, Int.reduceLT, Int.reduceLE, Int.reduceNeg, Int.reduceAdd, Int.reduceSub, hRm, hRl, hRt, Nat.le_refl, hbi]
      refine ghost_of (Goes.frz 90 (Goes.pur 7 (Goes.here ?_)))
      simp +contextual -dsimp (maxSteps := 2000000) only [↓SD, SU, SB, Nat.reduceAdd, Nat.reduceBEq, Nat.reduceEqDiff, Nat.reduceLeDiff, Nat.reduceLT, Nat.reduceSub, ↓reduceIte, zA, zI, zN, reduceCtorEq, Int.reduceToNat, zE, Int.reduceEq, Int.reduceLT, Int.reduceLE, Int.reduceNeg, Int.reduceAdd, Int.reduceSub, hRm, hRl, hRt, Nat.le_refl, hPm, hPL, hPt, av_Asks]
theorem specAsksOf_ok (l : List Pat) (hx : Bulk.bulk l ≤ 1048576) : CallsF Try.prog 5 [.sl (l.map av)] (asksV (asksO l)) := by
  refine callsF_weaker (specAsksW_ok l hx) fun S w v h => ?_
  cases hO : asksO l with
  | some a => rw [hO] at h; exact h
  | none =>
    rw [hO] at h
    unfold asksW at h
    have := Av.VR.tupSet (off := 0) (y := .agg [.sl []]) h (fun x u hx hu => by
      cases hx
      exact Av.VR.aggSet (off := 0) (y := .sl []) hu rfl (fun x u hx hu => by cases hx; cases hu; exact .sl0 none 0 (Nat.zero_le _)))
    exact this
end Go.Proofs.Ytohalepkikjinaa
