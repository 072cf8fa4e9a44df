/-
  RIGHT CODE: what CodeOk of both sides tells, by abstract texts. Conditions: none.
-/
import Derived.Test.YtabifanjbckchaaGreatPatSpec
import Derived.Test.YtabifanjbckchaaGreatOps
import Derived.Test.YtabifanjbckchaaGreatSPat
import Derived.Test.YtabifanjbckchaaGreatSIns
import Derived.Test.YtabifanjbckchaaGreatIrCodeOk
import Derived.Test.YtabifanjbckchaaGreatNumA
import Derived.Test.YtabifanjbckchaaGreatGiven
set_option linter.unusedVariables false
set_option linter.unusedSimpArgs false
set_option maxRecDepth 100000
namespace Go.Proofs.YtabifanjbckchaaGreat
open Go.RowKit Go.Proofs.YtabifanjbckchaaGreat.Av Go.Proofs.YtabifanjbckchaaGreat.Ml
open Go.Proofs.YtabifanjbckchaaGreat.Av.AVal (av)

/-- whether a number is the operation of an instruction that leads elsewhere -/
def leadB (op : Int) : Bool := decide (op = 8) || decide (op = 9) || decide (op = 12) || decide (op = 13) || decide (op = 18)
/-- the predefined functions -/
def givenB (s : ByteArray) : Bool := decide (s = bs [112, 114, 105, 110, 116]) || decide (s = bs [115, 97, 121]) || decide (s = bs [114, 101, 97, 100]) || decide (s = bs [115, 105, 122, 101])
/-- whether an instruction is right, where there are n instructions and m patterns -/
def insB (n m : Nat) (i : Ins) : Bool :=
  if leadB i.op = true then (decide (0 ≤ i.a) && decide (i.a ≤ (n : Int) - 1)) && (decide (i.b = 0) && decide (i.s = bs []))
  else if i.op = 20 then (decide (0 ≤ i.a) && decide (i.a ≤ (m : Int) - 1)) && (decide (0 ≤ i.b) && decide (i.b ≤ (n : Int) - 1)) && decide (i.s = bs [])
  else if i.op = 6 ∨ i.op = 15 then (decide (0 ≤ i.a) && decide (i.a ≤ 3000)) && (decide (i.b = 0) && decide (i.s = bs []))
  else if i.op = 1 then (decide (-4611686018427387904 ≤ i.a) && decide (i.a ≤ 4611686018427387903)) && (decide (i.b = 0) && decide (i.s = bs []))
  else if i.op = 4 then (decide (0 ≤ i.a) && decide (i.a ≤ 1)) && decide (i.b = 0) && shapeB i.s i.a true
  else if i.op = 2 then decide (i.a = 0) && decide (i.b = 0)
  else if i.op = 7 then decide (i.a = 0) && decide (i.b = 0) && givenB i.s
  else if i.op = 16 then decide (i.a = 0) && decide (i.b = 0) && opsL.any (fun x => decide (i.s = x))
  else (decide (1 ≤ i.op) && decide (i.op ≤ 25)) && (decide (i.a = 0) && decide (i.b = 0) && decide (i.s = bs []))
def codeB (c : Code) : Bool := (decide (1 ≤ (c.ins.length : Int)) && decide ((c.ins.length : Int) ≤ 3000)) && c.pats.all (fun q => patB q.nodes) && c.ins.all (insB c.ins.length c.pats.length)

theorem leads_ok (op : Int) : CallsF Tryz.prog 63 [.int .i64 op] (.bool (leadB op)) := by
  refine fun_impl_leads rfl (by simp; exact pint _) (AvPure.bool _) ?_
  simp +contextual -dsimp (maxSteps := 2000000) only [↓SD, SU, SB, Nat.reduceAdd, Nat.reduceBEq, Nat.reduceEqDiff, Nat.reduceLeDiff, Nat.reduceLT, Nat.reduceSub, ↓reduceIte, zA, zI, zN, reduceCtorEq, Int.reduceToNat, zE, Int.reduceEq, Int.reduceLT, Int.reduceLE, Int.reduceNeg, Int.reduceAdd, Int.reduceSub, ir_impl_leads, rs_impl_leads]
  (repeat' (first | intro _ | refine And.intro ?_ ?_))
  all_goals first | (simp [leadB, *]; done) | trace_state
theorem given_no {s : ByteArray} (h : givenB s = false) : CallsF Tryz.prog 83 [.str s] .nils := by
  simp only [givenB, Bool.or_eq_false_iff, decide_eq_false_iff_not] at h
  refine fun_impl_given rfl (by simp; exact AvPure.str _) AvPure.nils ?_
  simp +contextual -dsimp (maxSteps := 2000000) only [↓SD, SU, SB, Nat.reduceAdd, Nat.reduceBEq, Nat.reduceEqDiff, Nat.reduceLeDiff, Nat.reduceLT, Nat.reduceSub, ↓reduceIte, zA, zI, zN, reduceCtorEq, Int.reduceToNat, zE, Int.reduceEq, Int.reduceLT, Int.reduceLE, Int.reduceNeg, Int.reduceAdd, Int.reduceSub, ir_impl_given, rs_impl_given, h.1.1.1, h.1.1.2, h.1.2, h.2]
theorem bs_ne {a b : List Nat} (h : (bs a).data.toList ≠ (bs b).data.toList) : ¬ bs a = bs b := fun e => h (congrArg (fun x => x.data.toList) e)
theorem given_yes {s : ByteArray} (h : givenB s = true) : ∃ es, es ≠ [] ∧ CallsF Tryz.prog 83 [.str s] (.sl es) := by
  simp only [givenB, Bool.or_eq_true, decide_eq_true_eq] at h
  have n1 : ¬ bs [115, 97, 121] = bs [112, 114, 105, 110, 116] := bs_ne (by decide)
  have n2 : ¬ bs [114, 101, 97, 100] = bs [112, 114, 105, 110, 116] := bs_ne (by decide)
  have n3 : ¬ bs [114, 101, 97, 100] = bs [115, 97, 121] := bs_ne (by decide)
  have n4 : ¬ bs [115, 105, 122, 101] = bs [112, 114, 105, 110, 116] := bs_ne (by decide)
  have n5 : ¬ bs [115, 105, 122, 101] = bs [115, 97, 121] := bs_ne (by decide)
  have n6 : ¬ bs [115, 105, 122, 101] = bs [114, 101, 97, 100] := bs_ne (by decide)
  rcases h with ((rfl | rfl) | rfl) | rfl
  · refine ⟨_, ?_, fun_impl_given rfl (by simp; exact AvPure.str _) (?_) (by
      simp +contextual -dsimp (maxSteps := 2000000) only [↓SD, SU, SB, Nat.reduceAdd, Nat.reduceBEq, Nat.reduceEqDiff, Nat.reduceLeDiff, Nat.reduceLT, Nat.reduceSub, ↓reduceIte, zA, zI, zN, reduceCtorEq, Int.reduceToNat, zE, Int.reduceEq, Int.reduceLT, Int.reduceLE, Int.reduceNeg, Int.reduceAdd, Int.reduceSub, ir_impl_given, rs_impl_given, n1, n2, n3, n4, n5, n6]
      rfl)⟩
    · simp
    · refine AvPure.sl ?_
      simp only [List.mem_cons, List.not_mem_nil, or_false]
      rintro e (rfl | rfl | rfl) x hx <;> (simp only [AV.cells, List.mem_cons, List.not_mem_nil, or_false] at hx; rcases hx with rfl | rfl | rfl <;> first | exact AvPure.int _ _ | exact AvPure.str _)
  · refine ⟨_, ?_, fun_impl_given rfl (by simp; exact AvPure.str _) (?_) (by
      simp +contextual -dsimp (maxSteps := 2000000) only [↓SD, SU, SB, Nat.reduceAdd, Nat.reduceBEq, Nat.reduceEqDiff, Nat.reduceLeDiff, Nat.reduceLT, Nat.reduceSub, ↓reduceIte, zA, zI, zN, reduceCtorEq, Int.reduceToNat, zE, Int.reduceEq, Int.reduceLT, Int.reduceLE, Int.reduceNeg, Int.reduceAdd, Int.reduceSub, ir_impl_given, rs_impl_given, n1, n2, n3, n4, n5, n6]
      rfl)⟩
    · simp
    · refine AvPure.sl ?_
      simp only [List.mem_cons, List.not_mem_nil, or_false]
      rintro e (rfl | rfl | rfl) x hx <;> (simp only [AV.cells, List.mem_cons, List.not_mem_nil, or_false] at hx; rcases hx with rfl | rfl | rfl <;> first | exact AvPure.int _ _ | exact AvPure.str _)
  · refine ⟨_, ?_, fun_impl_given rfl (by simp; exact AvPure.str _) (?_) (by
      simp +contextual -dsimp (maxSteps := 2000000) only [↓SD, SU, SB, Nat.reduceAdd, Nat.reduceBEq, Nat.reduceEqDiff, Nat.reduceLeDiff, Nat.reduceLT, Nat.reduceSub, ↓reduceIte, zA, zI, zN, reduceCtorEq, Int.reduceToNat, zE, Int.reduceEq, Int.reduceLT, Int.reduceLE, Int.reduceNeg, Int.reduceAdd, Int.reduceSub, ir_impl_given, rs_impl_given, n1, n2, n3, n4, n5, n6]
      rfl)⟩
    · simp
    · refine AvPure.sl ?_
      simp only [List.mem_cons, List.not_mem_nil, or_false]
      rintro e (rfl | rfl | rfl) x hx <;> (simp only [AV.cells, List.mem_cons, List.not_mem_nil, or_false] at hx; rcases hx with rfl | rfl | rfl <;> first | exact AvPure.int _ _ | exact AvPure.str _)
  · refine ⟨_, ?_, fun_impl_given rfl (by simp; exact AvPure.str _) (?_) (by
      simp +contextual -dsimp (maxSteps := 2000000) only [↓SD, SU, SB, Nat.reduceAdd, Nat.reduceBEq, Nat.reduceEqDiff, Nat.reduceLeDiff, Nat.reduceLT, Nat.reduceSub, ↓reduceIte, zA, zI, zN, reduceCtorEq, Int.reduceToNat, zE, Int.reduceEq, Int.reduceLT, Int.reduceLE, Int.reduceNeg, Int.reduceAdd, Int.reduceSub, ir_impl_given, rs_impl_given, n1, n2, n3, n4, n5, n6]
      rfl)⟩
    · simp
    · refine AvPure.sl ?_
      simp only [List.mem_cons, List.not_mem_nil, or_false]
      rintro e (rfl | rfl | rfl) x hx <;> (simp only [AV.cells, List.mem_cons, List.not_mem_nil, or_false] at hx; rcases hx with rfl | rfl | rfl <;> first | exact AvPure.int _ _ | exact AvPure.str _)
theorem given_any (s : ByteArray) : ∃ r, ((r = .nils ∧ givenB s = false) ∨ ∃ es, es ≠ [] ∧ r = .sl es ∧ givenB s = true) ∧ CallsF Tryz.prog 83 [.str s] r := by
  cases h : givenB s with
  | false => exact ⟨.nils, .inl ⟨rfl, rfl⟩, given_no h⟩
  | true =>
    obtain ⟨es, h1, h2⟩ := given_yes h
    exact ⟨.sl es, .inr ⟨es, h1, rfl, rfl⟩, h2⟩
theorem l10Place_ok (c : Code) (a : Int) (hl : c.ins.length ≤ 1048576) : CallsF Tryz.prog 73 [av c, .int .i64 a] (.bool (decide (0 ≤ a) && decide (a ≤ (c.ins.length : Int) - 1))) := by
  refine fun_spec_l10Place rfl (by simp; exact ⟨AVal.clean c, pint _⟩) (AvPure.bool _) ?_
  have h : decide (a < (c.ins.length : Int)) = decide (a ≤ (c.ins.length : Int) - 1) := decide_eq_decide.2 (by omega)
  simp +contextual -dsimp (maxSteps := 2000000) only [↓SD, SU, SB, Nat.reduceAdd, Nat.reduceBEq, Nat.reduceEqDiff, Nat.reduceLeDiff, Nat.reduceLT, Nat.reduceSub, ↓reduceIte, zA, zI, zN, reduceCtorEq, Int.reduceToNat, zE, Int.reduceEq, Int.reduceLT, Int.reduceLE, Int.reduceNeg, Int.reduceAdd, Int.reduceSub, ir_spec_l10Place, rs_spec_l10Place, av_Code, map_len]
  (repeat' (first | intro _ | refine And.intro ?_ ?_))
  all_goals first | (simp [*]; done) | (simp [*]; omega) | trace_state
theorem ops25 {k : Int} (h : 1 ≤ k ∧ k ≤ 25) : k = 1 ∨ k = 2 ∨ k = 3 ∨ k = 4 ∨ k = 5 ∨ k = 6 ∨ k = 7 ∨ k = 8 ∨ k = 9 ∨ k = 10 ∨ k = 11 ∨ k = 12 ∨ k = 13 ∨ k = 14 ∨ k = 15 ∨ k = 16 ∨ k = 17 ∨ k = 18 ∨ k = 19 ∨ k = 20 ∨ k = 21 ∨ k = 22 ∨ k = 23 ∨ k = 24 ∨ k = 25 := by omega
set_option maxHeartbeats 2000000 in
theorem insOk_ok (c : Code) (i : Ins) (hl : c.ins.length ≤ 1048576) (hq : c.pats.length ≤ 1048576) (hs : i.s.size ≤ 1048576) : CallsF Tryz.prog 62 [av c, av i] (.bool (insB c.ins.length c.pats.length i)) := by
  refine fun_impl_insOk rfl (by simp; exact ⟨AVal.clean c, AVal.clean i⟩) (AvPure.bool _) ?_
  obtain ⟨op, a, b, s⟩ := i
  simp only at hs
  have CL := leads_ok op
  obtain ⟨r, hr, CG⟩ := given_any s
  by_cases h25 : 1 ≤ op ∧ op ≤ 25
  · rcases ops25 h25 with rfl | rfl | rfl | rfl | rfl | rfl | rfl | rfl | rfl | rfl | rfl | rfl | rfl | rfl | rfl | rfl | rfl | rfl | rfl | rfl | rfl | rfl | rfl | rfl | rfl
    all_goals clear h25
    all_goals first
      | (have CL : CallsF Tryz.prog 63 [.int .i64 _] (.bool true) := CL
         simp +contextual -dsimp (maxSteps := 2000000) only [↓SD, SU, SB, Nat.reduceAdd, Nat.reduceBEq, Nat.reduceEqDiff, Nat.reduceLeDiff, Nat.reduceLT, Nat.reduceSub, ↓reduceIte, zA, zI, zN, reduceCtorEq, Int.reduceToNat, zE, Int.reduceEq, Int.reduceLT, Int.reduceLE, Int.reduceNeg, Int.reduceAdd, Int.reduceSub, ir_impl_insOk, rs_impl_insOk, av_Code, av_Ins, map_len]
         intro v
         refine aCallK_of _ CL ?_
         simp +contextual -dsimp (maxSteps := 2000000) only [↓SD, SU, SB, Nat.reduceAdd, Nat.reduceBEq, Nat.reduceEqDiff, Nat.reduceLeDiff, Nat.reduceLT, Nat.reduceSub, ↓reduceIte, zA, zI, zN, reduceCtorEq, Int.reduceToNat, zE, Int.reduceEq, Int.reduceLT, Int.reduceLE, Int.reduceNeg, Int.reduceAdd, Int.reduceSub, map_len]
         (repeat' (first | intro _ | refine And.intro ?_ ?_))
         all_goals first | omega | skip
         all_goals first
           | (refine aCallK_of _ (within_ok _ _ _) ?_; simp +contextual -dsimp (maxSteps := 2000000) only [↓SD, SU, SB, Nat.reduceAdd, Nat.reduceBEq, Nat.reduceEqDiff, Nat.reduceLeDiff, Nat.reduceLT, Nat.reduceSub, ↓reduceIte, zA, zI, zN, reduceCtorEq, Int.reduceToNat, zE, Int.reduceEq, Int.reduceLT, Int.reduceLE, Int.reduceNeg, Int.reduceAdd, Int.reduceSub, *, map_len]; (repeat' (first | intro _ | refine And.intro ?_ ?_)))
           | (refine aCallK_of _ primOps_ok ?_; simp +contextual -dsimp (maxSteps := 2000000) only [↓SD, SU, SB, Nat.reduceAdd, Nat.reduceBEq, Nat.reduceEqDiff, Nat.reduceLeDiff, Nat.reduceLT, Nat.reduceSub, ↓reduceIte, zA, zI, zN, reduceCtorEq, Int.reduceToNat, zE, Int.reduceEq, Int.reduceLT, Int.reduceLE, Int.reduceNeg, Int.reduceAdd, Int.reduceSub, *, map_len]; refine aCallK_of _ (ContainsStr_ok _ _ (by decide)) ?_; simp +contextual -dsimp (maxSteps := 2000000) only [↓SD, SU, SB, Nat.reduceAdd, Nat.reduceBEq, Nat.reduceEqDiff, Nat.reduceLeDiff, Nat.reduceLT, Nat.reduceSub, ↓reduceIte, zA, zI, zN, reduceCtorEq, Int.reduceToNat, zE, Int.reduceEq, Int.reduceLT, Int.reduceLE, Int.reduceNeg, Int.reduceAdd, Int.reduceSub, *, map_len]; (repeat' (first | intro _ | refine And.intro ?_ ?_)))
           | (refine aCallK_of _ CG ?_; rcases hr with ⟨rfl, hg⟩ | ⟨es, hes, rfl, hg⟩ <;> (simp +contextual -dsimp (maxSteps := 2000000) only [↓SD, SU, SB, Nat.reduceAdd, Nat.reduceBEq, Nat.reduceEqDiff, Nat.reduceLeDiff, Nat.reduceLT, Nat.reduceSub, ↓reduceIte, zA, zI, zN, reduceCtorEq, Int.reduceToNat, zE, Int.reduceEq, Int.reduceLT, Int.reduceLE, Int.reduceNeg, Int.reduceAdd, Int.reduceSub, *, map_len]; (repeat' (first | intro _ | refine And.intro ?_ ?_))))
           | skip
         all_goals first | omega | skip
         all_goals first | (refine aCallK_of _ (within_ok _ _ _) ?_; simp +contextual -dsimp (maxSteps := 2000000) only [↓SD, SU, SB, Nat.reduceAdd, Nat.reduceBEq, Nat.reduceEqDiff, Nat.reduceLeDiff, Nat.reduceLT, Nat.reduceSub, ↓reduceIte, zA, zI, zN, reduceCtorEq, Int.reduceToNat, zE, Int.reduceEq, Int.reduceLT, Int.reduceLE, Int.reduceNeg, Int.reduceAdd, Int.reduceSub, *, map_len]; (repeat' (first | intro _ | refine And.intro ?_ ?_))) | (refine aCallK_of _ (conShape_ok _ _ _ (by omega)) ?_; simp +contextual -dsimp (maxSteps := 2000000) only [↓SD, SU, SB, Nat.reduceAdd, Nat.reduceBEq, Nat.reduceEqDiff, Nat.reduceLeDiff, Nat.reduceLT, Nat.reduceSub, ↓reduceIte, zA, zI, zN, reduceCtorEq, Int.reduceToNat, zE, Int.reduceEq, Int.reduceLT, Int.reduceLE, Int.reduceNeg, Int.reduceAdd, Int.reduceSub, *, map_len]; (repeat' (first | intro _ | refine And.intro ?_ ?_))) | skip
         all_goals first | omega | (simp [insB, leadB, Bool.and_assoc, *]; done) | (simp [insB, leadB, *]; omega) | trace_state)
      | (have CL : CallsF Tryz.prog 63 [.int .i64 _] (.bool false) := CL
         simp +contextual -dsimp (maxSteps := 2000000) only [↓SD, SU, SB, Nat.reduceAdd, Nat.reduceBEq, Nat.reduceEqDiff, Nat.reduceLeDiff, Nat.reduceLT, Nat.reduceSub, ↓reduceIte, zA, zI, zN, reduceCtorEq, Int.reduceToNat, zE, Int.reduceEq, Int.reduceLT, Int.reduceLE, Int.reduceNeg, Int.reduceAdd, Int.reduceSub, ir_impl_insOk, rs_impl_insOk, av_Code, av_Ins, map_len]
         intro v
         refine aCallK_of _ CL ?_
         simp +contextual -dsimp (maxSteps := 2000000) only [↓SD, SU, SB, Nat.reduceAdd, Nat.reduceBEq, Nat.reduceEqDiff, Nat.reduceLeDiff, Nat.reduceLT, Nat.reduceSub, ↓reduceIte, zA, zI, zN, reduceCtorEq, Int.reduceToNat, zE, Int.reduceEq, Int.reduceLT, Int.reduceLE, Int.reduceNeg, Int.reduceAdd, Int.reduceSub, map_len]
         (repeat' (first | intro _ | refine And.intro ?_ ?_))
         all_goals first | omega | skip
         all_goals first
           | (refine aCallK_of _ (within_ok _ _ _) ?_; simp +contextual -dsimp (maxSteps := 2000000) only [↓SD, SU, SB, Nat.reduceAdd, Nat.reduceBEq, Nat.reduceEqDiff, Nat.reduceLeDiff, Nat.reduceLT, Nat.reduceSub, ↓reduceIte, zA, zI, zN, reduceCtorEq, Int.reduceToNat, zE, Int.reduceEq, Int.reduceLT, Int.reduceLE, Int.reduceNeg, Int.reduceAdd, Int.reduceSub, *, map_len]; (repeat' (first | intro _ | refine And.intro ?_ ?_)))
           | (refine aCallK_of _ primOps_ok ?_; simp +contextual -dsimp (maxSteps := 2000000) only [↓SD, SU, SB, Nat.reduceAdd, Nat.reduceBEq, Nat.reduceEqDiff, Nat.reduceLeDiff, Nat.reduceLT, Nat.reduceSub, ↓reduceIte, zA, zI, zN, reduceCtorEq, Int.reduceToNat, zE, Int.reduceEq, Int.reduceLT, Int.reduceLE, Int.reduceNeg, Int.reduceAdd, Int.reduceSub, *, map_len]; refine aCallK_of _ (ContainsStr_ok _ _ (by decide)) ?_; simp +contextual -dsimp (maxSteps := 2000000) only [↓SD, SU, SB, Nat.reduceAdd, Nat.reduceBEq, Nat.reduceEqDiff, Nat.reduceLeDiff, Nat.reduceLT, Nat.reduceSub, ↓reduceIte, zA, zI, zN, reduceCtorEq, Int.reduceToNat, zE, Int.reduceEq, Int.reduceLT, Int.reduceLE, Int.reduceNeg, Int.reduceAdd, Int.reduceSub, *, map_len]; (repeat' (first | intro _ | refine And.intro ?_ ?_)))
           | (refine aCallK_of _ CG ?_; rcases hr with ⟨rfl, hg⟩ | ⟨es, hes, rfl, hg⟩ <;> (simp +contextual -dsimp (maxSteps := 2000000) only [↓SD, SU, SB, Nat.reduceAdd, Nat.reduceBEq, Nat.reduceEqDiff, Nat.reduceLeDiff, Nat.reduceLT, Nat.reduceSub, ↓reduceIte, zA, zI, zN, reduceCtorEq, Int.reduceToNat, zE, Int.reduceEq, Int.reduceLT, Int.reduceLE, Int.reduceNeg, Int.reduceAdd, Int.reduceSub, *, map_len]; (repeat' (first | intro _ | refine And.intro ?_ ?_))))
           | skip
         all_goals first | omega | skip
         all_goals first | (refine aCallK_of _ (within_ok _ _ _) ?_; simp +contextual -dsimp (maxSteps := 2000000) only [↓SD, SU, SB, Nat.reduceAdd, Nat.reduceBEq, Nat.reduceEqDiff, Nat.reduceLeDiff, Nat.reduceLT, Nat.reduceSub, ↓reduceIte, zA, zI, zN, reduceCtorEq, Int.reduceToNat, zE, Int.reduceEq, Int.reduceLT, Int.reduceLE, Int.reduceNeg, Int.reduceAdd, Int.reduceSub, *, map_len]; (repeat' (first | intro _ | refine And.intro ?_ ?_))) | (refine aCallK_of _ (conShape_ok _ _ _ (by omega)) ?_; simp +contextual -dsimp (maxSteps := 2000000) only [↓SD, SU, SB, Nat.reduceAdd, Nat.reduceBEq, Nat.reduceEqDiff, Nat.reduceLeDiff, Nat.reduceLT, Nat.reduceSub, ↓reduceIte, zA, zI, zN, reduceCtorEq, Int.reduceToNat, zE, Int.reduceEq, Int.reduceLT, Int.reduceLE, Int.reduceNeg, Int.reduceAdd, Int.reduceSub, *, map_len]; (repeat' (first | intro _ | refine And.intro ?_ ?_))) | skip
         all_goals first | omega | (simp [insB, leadB, Bool.and_assoc, *]; done) | (simp [insB, leadB, *]; omega) | trace_state)
  · have hL : leadB op = false := by simp [leadB]; omega
    rw [hL] at CL
    have n1 : ¬ op = 20 := by omega
    have n2 : ¬ op = 6 := by omega
    have n3 : ¬ op = 15 := by omega
    have n4 : ¬ op = 1 := by omega
    have n5 : ¬ op = 4 := by omega
    have n6 : ¬ op = 2 := by omega
    have n7 : ¬ op = 7 := by omega
    have n8 : ¬ op = 16 := by omega
    have n9 : (decide (1 ≤ op) && decide (op ≤ 25)) = false := by rw [Bool.and_eq_false_iff, decide_eq_false_iff_not, decide_eq_false_iff_not]; omega
    have C := within_ok op 1 25
    rw [n9] at C
    simp +contextual -dsimp (maxSteps := 2000000) only [↓SD, SU, SB, Nat.reduceAdd, Nat.reduceBEq, Nat.reduceEqDiff, Nat.reduceLeDiff, Nat.reduceLT, Nat.reduceSub, ↓reduceIte, zA, zI, zN, reduceCtorEq, Int.reduceToNat, zE, Int.reduceEq, Int.reduceLT, Int.reduceLE, Int.reduceNeg, Int.reduceAdd, Int.reduceSub, ir_impl_insOk, rs_impl_insOk, av_Code, av_Ins, map_len]
    intro v
    refine aCallK_of _ CL ?_
    simp +contextual -dsimp (maxSteps := 2000000) only [↓SD, SU, SB, Nat.reduceAdd, Nat.reduceBEq, Nat.reduceEqDiff, Nat.reduceLeDiff, Nat.reduceLT, Nat.reduceSub, ↓reduceIte, zA, zI, zN, reduceCtorEq, Int.reduceToNat, zE, Int.reduceEq, Int.reduceLT, Int.reduceLE, Int.reduceNeg, Int.reduceAdd, Int.reduceSub, map_len, n1, n2, n3, n4, n5, n6, n7, n8]
    refine aCallK_of _ C ?_
    simp +contextual -dsimp (maxSteps := 2000000) only [↓SD, SU, SB, Nat.reduceAdd, Nat.reduceBEq, Nat.reduceEqDiff, Nat.reduceLeDiff, Nat.reduceLT, Nat.reduceSub, ↓reduceIte, zA, zI, zN, reduceCtorEq, Int.reduceToNat, zE, Int.reduceEq, Int.reduceLT, Int.reduceLE, Int.reduceNeg, Int.reduceAdd, Int.reduceSub]
    simp [insB, hL, n1, n2, n3, n4, n5, n6, n7, n8, n9]

theorem wrapS_ok (n : Int) (h : -9223372036854775808 ≤ n ∧ n ≤ 9223372036854775807) : ∃ m, CallsF Tryz.prog 71 [.int .i64 n] (.int .i64 m) ∧ decide (m = n) = (decide (-4611686018427387904 ≤ n) && decide (n ≤ 4611686018427387903)) := by
  refine ⟨_, specWrap_ok n h, ?_⟩
  rw [← Bool.decide_and]
  exact decide_eq_decide.2 (wrap_id n h)
set_option maxHeartbeats 2000000 in
theorem l10InsOk_ok (c : Code) (i : Ins) (hl : c.ins.length ≤ 1048576) (hq : c.pats.length ≤ 1048576) (hs : i.s.size ≤ 1048576) (hr : -9223372036854775808 ≤ i.a ∧ i.a ≤ 9223372036854775807) : CallsF Tryz.prog 52 [av c, av i] (.bool (insB c.ins.length c.pats.length i)) := by
  refine fun_spec_l10InsOk rfl (by simp; exact ⟨AVal.clean c, AVal.clean i⟩) (AvPure.bool _) ?_
  obtain ⟨op, a, b, s⟩ := i
  simp only at hs hr
  obtain ⟨m, CW, hm⟩ := wrapS_ok a hr
  have CPa := l10Place_ok c a hl
  have CPb := l10Place_ok c b hl
  rw [av_Code] at CPa CPb
  by_cases h25 : 1 ≤ op ∧ op ≤ 25
  · rcases ops25 h25 with rfl | rfl | rfl | rfl | rfl | rfl | rfl | rfl | rfl | rfl | rfl | rfl | rfl | rfl | rfl | rfl | rfl | rfl | rfl | rfl | rfl | rfl | rfl | rfl | rfl
    all_goals clear h25
    all_goals
      simp +contextual -dsimp (maxSteps := 2000000) only [↓SD, SU, SB, Nat.reduceAdd, Nat.reduceBEq, Nat.reduceEqDiff, Nat.reduceLeDiff, Nat.reduceLT, Nat.reduceSub, ↓reduceIte, zA, zI, zN, reduceCtorEq, Int.reduceToNat, zE, Int.reduceEq, Int.reduceLT, Int.reduceLE, Int.reduceNeg, Int.reduceAdd, Int.reduceSub, ir_spec_l10InsOk, rs_spec_l10InsOk, av_Code, av_Ins, map_len]
      (repeat' (first | intro _ | refine And.intro ?_ ?_))
    all_goals first | (refine aCallK_of _ CW ?_; simp +contextual -dsimp (maxSteps := 2000000) only [↓SD, SU, SB, Nat.reduceAdd, Nat.reduceBEq, Nat.reduceEqDiff, Nat.reduceLeDiff, Nat.reduceLT, Nat.reduceSub, ↓reduceIte, zA, zI, zN, reduceCtorEq, Int.reduceToNat, zE, Int.reduceEq, Int.reduceLT, Int.reduceLE, Int.reduceNeg, Int.reduceAdd, Int.reduceSub, *, map_len]; (repeat' (first | intro _ | refine And.intro ?_ ?_))) | (refine aCallK_of _ CPa ?_; simp +contextual -dsimp (maxSteps := 2000000) only [↓SD, SU, SB, Nat.reduceAdd, Nat.reduceBEq, Nat.reduceEqDiff, Nat.reduceLeDiff, Nat.reduceLT, Nat.reduceSub, ↓reduceIte, zA, zI, zN, reduceCtorEq, Int.reduceToNat, zE, Int.reduceEq, Int.reduceLT, Int.reduceLE, Int.reduceNeg, Int.reduceAdd, Int.reduceSub, *, map_len]; (repeat' (first | intro _ | refine And.intro ?_ ?_))) | (refine aCallK_of _ (l04ConOk_ok _ _ _ (by omega)) ?_; simp +contextual -dsimp (maxSteps := 2000000) only [↓SD, SU, SB, Nat.reduceAdd, Nat.reduceBEq, Nat.reduceEqDiff, Nat.reduceLeDiff, Nat.reduceLT, Nat.reduceSub, ↓reduceIte, zA, zI, zN, reduceCtorEq, Int.reduceToNat, zE, Int.reduceEq, Int.reduceLT, Int.reduceLE, Int.reduceNeg, Int.reduceAdd, Int.reduceSub, *, map_len]; (repeat' (first | intro _ | refine And.intro ?_ ?_))) | (refine aCallK_of _ (l04Prim_ok _) ?_; simp +contextual -dsimp (maxSteps := 2000000) only [↓SD, SU, SB, Nat.reduceAdd, Nat.reduceBEq, Nat.reduceEqDiff, Nat.reduceLeDiff, Nat.reduceLT, Nat.reduceSub, ↓reduceIte, zA, zI, zN, reduceCtorEq, Int.reduceToNat, zE, Int.reduceEq, Int.reduceLT, Int.reduceLE, Int.reduceNeg, Int.reduceAdd, Int.reduceSub, *, map_len]; (repeat' (first | intro _ | refine And.intro ?_ ?_))) | (refine aCallK_of _ CPb ?_; simp +contextual -dsimp (maxSteps := 2000000) only [↓SD, SU, SB, Nat.reduceAdd, Nat.reduceBEq, Nat.reduceEqDiff, Nat.reduceLeDiff, Nat.reduceLT, Nat.reduceSub, ↓reduceIte, zA, zI, zN, reduceCtorEq, Int.reduceToNat, zE, Int.reduceEq, Int.reduceLT, Int.reduceLE, Int.reduceNeg, Int.reduceAdd, Int.reduceSub, *, map_len]; (repeat' (first | intro _ | refine And.intro ?_ ?_))) | skip
    all_goals first | omega | (simp [insB, leadB, givenB, Bool.and_assoc, Bool.or_assoc, *]; done) | (simp [insB, leadB, givenB, *]; omega) | trace_state
  · have hL : leadB op = false := by simp [leadB]; omega
    have m20 : ¬ op = 20 := by omega
    have m6 : ¬ op = 6 := by omega
    have m15 : ¬ op = 15 := by omega
    have m1 : ¬ op = 1 := by omega
    have m4 : ¬ op = 4 := by omega
    have m2 : ¬ op = 2 := by omega
    have m7 : ¬ op = 7 := by omega
    have m16 : ¬ op = 16 := by omega
    have m8 : ¬ op = 8 := by omega
    have m9 : ¬ op = 9 := by omega
    have m12 : ¬ op = 12 := by omega
    have m13 : ¬ op = 13 := by omega
    have m18 : ¬ op = 18 := by omega
    have n9 : (decide (1 ≤ op) && decide (op ≤ 25)) = false := by rw [Bool.and_eq_false_iff, decide_eq_false_iff_not, decide_eq_false_iff_not]; omega
    have hI : insB c.ins.length c.pats.length ⟨op, a, b, s⟩ = false := by simp [insB, hL, m20, m6, m15, m1, m4, m2, m7, m16, m8, m9, m12, m13, m18, n9]
    rw [hI]
    simp +contextual -dsimp (maxSteps := 2000000) only [↓SD, SU, SB, Nat.reduceAdd, Nat.reduceBEq, Nat.reduceEqDiff, Nat.reduceLeDiff, Nat.reduceLT, Nat.reduceSub, ↓reduceIte, zA, zI, zN, reduceCtorEq, Int.reduceToNat, zE, Int.reduceEq, Int.reduceLT, Int.reduceLE, Int.reduceNeg, Int.reduceAdd, Int.reduceSub, ir_spec_l10InsOk, rs_spec_l10InsOk, av_Code, av_Ins, map_len, m20, m6, m15, m1, m4, m2, m7, m16, m8, m9, m12, m13, m18]
    (repeat' (first | intro _ | refine And.intro ?_ ?_))
    all_goals first | omega | rfl | (simp [*]; done) | (simp [*]; omega) | trace_state
theorem code_small {c : Code} (hx : Bulk.bulk c ≤ 1048576) : (c.ins.length ≤ 1048576 ∧ c.pats.length ≤ 1048576) ∧ (∀ i ∈ c.ins, i.s.size ≤ 1048576) ∧ ∀ q ∈ c.pats, Bulk.bulk q.nodes ≤ 1048576 := by
  have h0 : Bulk.bulk c = Bulk.bulk c.ins + Bulk.bulk c.pats + 1 := rfl
  have h1 := bulk_length c.ins
  have h2 := bulk_length c.pats
  refine ⟨by omega, fun i hi => ?_, fun q hq => ?_⟩
  · have h3 := bulk_mem hi
    have h4 : Bulk.bulk i = Bulk.bulk i.op + Bulk.bulk i.a + Bulk.bulk i.b + Bulk.bulk i.s + 1 := rfl
    have h5 : Bulk.bulk i.s = i.s.size + 1 := rfl
    omega
  · have h3 := bulk_mem hq
    have h4 : Bulk.bulk q = Bulk.bulk q.nodes + 1 := rfl
    omega
theorem codeB_size {c : Code} (h : ¬ (1 ≤ (c.ins.length : Int) ∧ (c.ins.length : Int) ≤ 3000)) : codeB c = false := by
  unfold codeB
  rw [show (decide (1 ≤ (c.ins.length : Int)) && decide ((c.ins.length : Int) ≤ 3000)) = false by rw [Bool.and_eq_false_iff, decide_eq_false_iff_not, decide_eq_false_iff_not]; omega]
  rfl
theorem codeB_as {c : Code} (h : 1 ≤ (c.ins.length : Int) ∧ (c.ins.length : Int) ≤ 3000) : codeB c = (c.pats.all (fun q => patB q.nodes) && c.ins.all (insB c.ins.length c.pats.length)) := by
  unfold codeB
  rw [decide_eq_true h.1, decide_eq_true h.2]; rfl
theorem codeOk1_ok (q : Pat) (hx : Bulk.bulk q.nodes ≤ 1048576) : CallsF Tryz.prog 58 [av q] (.bool (!patB q.nodes)) := by
  refine fun_impl_CodeOk_1 rfl (by simp; exact AVal.clean q) (AvPure.bool _) ?_
  simp +contextual -dsimp (maxSteps := 2000000) only [↓SD, SU, SB, Nat.reduceAdd, Nat.reduceBEq, Nat.reduceEqDiff, Nat.reduceLeDiff, Nat.reduceLT, Nat.reduceSub, ↓reduceIte, zA, zI, zN, reduceCtorEq, Int.reduceToNat, zE, ir_impl_CodeOk_1, rs_impl_CodeOk_1, av_Pat]
  refine aCallK_of _ (implPatOk_ok q.nodes hx) ?_
  simp +contextual -dsimp (maxSteps := 2000000) only [↓SD, SU, SB, Nat.reduceAdd, Nat.reduceBEq, Nat.reduceEqDiff, Nat.reduceLeDiff, Nat.reduceLT, Nat.reduceSub, ↓reduceIte, zA, zI, zN, reduceCtorEq, Int.reduceToNat, zE]
theorem codeOk2_ok (c : Code) (i : Ins) (hl : c.ins.length ≤ 1048576) (hq : c.pats.length ≤ 1048576) (hs : i.s.size ≤ 1048576) : CallsF Tryz.prog 61 [av i, .obj [.sl (c.ins.map av), .sl (c.pats.map av)]] (.bool (!insB c.ins.length c.pats.length i)) := by
  have hc : AvPure (.obj [.sl (c.ins.map av), .sl (c.pats.map av)]) := AvPure.obj (by simp; exact ⟨lav_clean _, lav_clean _⟩)
  refine fun_impl_CodeOk_2 rfl (by simp; exact ⟨AVal.clean i, hc⟩) (AvPure.bool _) ?_
  have C := insOk_ok c i hl hq hs
  rw [av_Ins, av_Code] at C
  simp +contextual -dsimp (maxSteps := 2000000) only [↓SD, SU, SB, Nat.reduceAdd, Nat.reduceBEq, Nat.reduceEqDiff, Nat.reduceLeDiff, Nat.reduceLT, Nat.reduceSub, ↓reduceIte, zA, zI, zN, reduceCtorEq, Int.reduceToNat, zE, ir_impl_CodeOk_2, rs_impl_CodeOk_2, av_Ins]
  refine aCallK_of _ C ?_
  simp +contextual -dsimp (maxSteps := 2000000) only [↓SD, SU, SB, Nat.reduceAdd, Nat.reduceBEq, Nat.reduceEqDiff, Nat.reduceLeDiff, Nat.reduceLT, Nat.reduceSub, ↓reduceIte, zA, zI, zN, reduceCtorEq, Int.reduceToNat, zE]
theorem implCodeOk_ok (c : Code) (hx : Bulk.bulk c ≤ 1048576) : CallsF Tryz.prog 40 [av c] (.bool (codeB c)) := by
  obtain ⟨⟨hl, hq⟩, hs, hp⟩ := code_small hx
  have hc : AvPure (.obj [.sl (c.ins.map av), .sl (c.pats.map av)]) := AvPure.obj (by simp; exact ⟨lav_clean _, lav_clean _⟩)
  refine fun_impl_CodeOk rfl (by simp; exact AVal.clean c) (AvPure.bool _) ?_
  simp +contextual -dsimp (maxSteps := 2000000) only [↓SD, SU, SB, Nat.reduceAdd, Nat.reduceBEq, Nat.reduceEqDiff, Nat.reduceLeDiff, Nat.reduceLT, Nat.reduceSub, ↓reduceIte, zA, zI, zN, reduceCtorEq, Int.reduceToNat, zE, ir_impl_CodeOk, rs_impl_CodeOk, av_Code, map_len]
  have C1 := within_ok (c.ins.length : Int) 1 3000
  by_cases hsm : 1 ≤ (c.ins.length : Int) ∧ (c.ins.length : Int) ≤ 3000
  · rw [decide_eq_true hsm.1, decide_eq_true hsm.2] at C1
    refine aCallK_of _ C1 ?_
    simp +contextual -dsimp (maxSteps := 2000000) only [↓SD, SU, SB, Nat.reduceAdd, Nat.reduceBEq, Nat.reduceEqDiff, Nat.reduceLeDiff, Nat.reduceLT, Nat.reduceSub, ↓reduceIte, zA, zI, zN, reduceCtorEq, Int.reduceToNat, zE, map_len]
    have C2 := ContainsFunc_Pat_ok c.pats 58 [] (fun q => !patB q.nodes) (by omega) (by simp) (by intro hp; rfl) (fun q hq => codeOk1_ok q (hp q hq))
    have C3 := ContainsFunc_Ins_ok c.ins 61 [.obj [.sl (c.ins.map av), .sl (c.pats.map av)]] (fun i => !insB c.ins.length c.pats.length i) (by omega) (by simp; exact hc) (by intro hp; rfl) (fun i hi => codeOk2_ok c i hl hq (hs i hi))
    have e2 : (c.pats.any fun q => !patB q.nodes) = !(c.pats.all fun q => patB q.nodes) := by rw [List.all_eq_not_any_not, Bool.not_not]
    have e3 : (c.ins.any fun i => !insB c.ins.length c.pats.length i) = !(c.ins.all (insB c.ins.length c.pats.length)) := by rw [List.all_eq_not_any_not, Bool.not_not]
    rw [e2] at C2
    rw [e3] at C3
    rw [codeB_as hsm]
    cases hpa : c.pats.all fun q => patB q.nodes with
    | false =>
      rw [hpa] at C2
      refine aCallK_of _ C2 ?_
      simp +contextual -dsimp (maxSteps := 2000000) only [↓SD, SU, SB, Nat.reduceAdd, Nat.reduceBEq, Nat.reduceEqDiff, Nat.reduceLeDiff, Nat.reduceLT, Nat.reduceSub, ↓reduceIte, zA, zI, zN, reduceCtorEq, Int.reduceToNat, zE]
    | true =>
      rw [hpa] at C2
      refine aCallK_of _ C2 ?_
      simp +contextual -dsimp (maxSteps := 2000000) only [↓SD, SU, SB, Nat.reduceAdd, Nat.reduceBEq, Nat.reduceEqDiff, Nat.reduceLeDiff, Nat.reduceLT, Nat.reduceSub, ↓reduceIte, zA, zI, zN, reduceCtorEq, Int.reduceToNat, zE]
      refine aCallK_of _ C3 ?_
      simp +contextual -dsimp (maxSteps := 2000000) only [↓SD, SU, SB, Nat.reduceAdd, Nat.reduceBEq, Nat.reduceEqDiff, Nat.reduceLeDiff, Nat.reduceLT, Nat.reduceSub, ↓reduceIte, zA, zI, zN, reduceCtorEq, Int.reduceToNat, zE, Bool.not_not]
  · have hf : (decide (1 ≤ (c.ins.length : Int)) && decide ((c.ins.length : Int) ≤ 3000)) = false := by
      rw [Bool.and_eq_false_iff, decide_eq_false_iff_not, decide_eq_false_iff_not]; omega
    rw [hf] at C1
    refine aCallK_of _ C1 ?_
    simp +contextual -dsimp (maxSteps := 2000000) only [↓SD, SU, SB, Nat.reduceAdd, Nat.reduceBEq, Nat.reduceEqDiff, Nat.reduceLeDiff, Nat.reduceLT, Nat.reduceSub, ↓reduceIte, zA, zI, zN, reduceCtorEq, Int.reduceToNat, zE, codeB_size hsm]
theorem specCodeOk_ok (c : Code) (hx : Bulk.bulk c ≤ 1048576) (hr : ∀ i ∈ c.ins, -9223372036854775808 ≤ i.a ∧ i.a ≤ 9223372036854775807) : CallsF Tryz.prog 32 [av c] (.bool (codeB c)) := by
  obtain ⟨⟨hl, hq⟩, hs, hp⟩ := code_small hx
  refine fun_spec_CodeOk rfl (by simp; exact AVal.clean c) (AvPure.bool _) ?_
  simp +contextual -dsimp (maxSteps := 2000000) only [↓SD, SU, SB, Nat.reduceAdd, Nat.reduceBEq, Nat.reduceEqDiff, Nat.reduceLeDiff, Nat.reduceLT, Nat.reduceSub, ↓reduceIte, zA, zI, zN, reduceCtorEq, Int.reduceToNat, zE, Int.reduceEq, Int.reduceLT, Int.reduceLE, Int.reduceNeg, Int.reduceAdd, Int.reduceSub, ir_spec_CodeOk, rs_spec_CodeOk, av_Code, map_len]
  refine ⟨fun h1 => ⟨fun h2 => by rw [codeB_size (by omega)], fun h2 => ?_⟩, fun h1 => by rw [codeB_size (by omega)]⟩
  have hsm : 1 ≤ (c.ins.length : Int) ∧ (c.ins.length : Int) ≤ 3000 := by omega
  rw [codeB_as hsm]
  refine aLoop_of (X := Nat) (fun k => ⟨[(1, .obj [.sl (c.ins.map av), .sl (c.pats.map av)]), (18, .sl (c.pats.map av)), (19, .int .i64 c.pats.length), (20, .int .i64 k)], []⟩) (fun k => k ≤ c.pats.length ∧ (c.pats.take k).all (fun q => patB q.nodes) = true) (fun k => c.pats.length - k) 0 ⟨Nat.zero_le _, rfl⟩ (by simp +contextual -dsimp only [↓SD, SU, SB, Nat.reduceAdd, Nat.reduceBEq, Nat.reduceEqDiff, Nat.reduceLeDiff, Nat.reduceLT, Nat.reduceSub, ↓reduceIte, zA, zI, zN, reduceCtorEq, Int.reduceToNat, zE]) trivial ?_
  rintro k ⟨hk, hpk⟩
  by_cases hlt : k < c.pats.length
  · have e := getD_map av c.pats k .top hlt
    have C := specPatOk_ok c.pats[k].nodes (hp _ (List.getElem_mem hlt))
    have hno : patB c.pats[k].nodes = false → (c.pats.all fun q => patB q.nodes) = false := fun h => all_false' _ hlt h
    have hyes : patB c.pats[k].nodes = true → ((c.pats.take (k + 1)).all fun q => patB q.nodes) = true := fun h => by rw [all_take' _ hlt hpk]; exact h
    generalize c.pats[k] = q at *
    simp +contextual -dsimp (maxSteps := 2000000) only [↓SD, SU, SB, Nat.reduceAdd, Nat.reduceBEq, Nat.reduceEqDiff, Nat.reduceLeDiff, Nat.reduceLT, Nat.reduceSub, ↓reduceIte, zA, zI, zN, reduceCtorEq, Int.reduceToNat, zE, map_len, hlt, e, av_Pat]
    intro v
    refine aCallK_of _ C ?_
    simp +contextual -dsimp (maxSteps := 2000000) only [↓SD, SU, SB, Nat.reduceAdd, Nat.reduceBEq, Nat.reduceEqDiff, Nat.reduceLeDiff, Nat.reduceLT, Nat.reduceSub, ↓reduceIte, zA, zI, zN, reduceCtorEq, Int.reduceToNat, zE]
    refine ⟨fun h => by rw [hno h]; rfl, fun h => ⟨by omega, Goes.le ⟨k + 1, ⟨⟨hlt, hyes h⟩, (by first | omega | (simp only; omega))⟩, rfl⟩ (by simp +contextual -dsimp only [↓SD, SU, SB, Nat.reduceAdd, Nat.reduceBEq, Nat.reduceEqDiff, Nat.reduceLeDiff, Nat.reduceLT, Nat.reduceSub, ↓reduceIte, zA, zI, zN, reduceCtorEq, Int.reduceToNat, zE, Int.natCast_add]) trivial⟩⟩
  · obtain rfl : k = c.pats.length := by omega
    rw [List.take_length] at hpk
    rw [hpk]
    simp +contextual -dsimp (maxSteps := 2000000) only [↓SD, SU, SB, Nat.reduceAdd, Nat.reduceBEq, Nat.reduceEqDiff, Nat.reduceLeDiff, Nat.reduceLT, Nat.reduceSub, ↓reduceIte, zA, zI, zN, reduceCtorEq, Int.reduceToNat, zE, map_len, Nat.lt_irrefl]
    refine aLoop_of (X := Nat) (fun k => ⟨[(1, .obj [.sl (c.ins.map av), .sl (c.pats.map av)]), (29, .sl (c.ins.map av)), (30, .int .i64 c.ins.length), (31, .int .i64 k)], []⟩) (fun k => k ≤ c.ins.length ∧ (c.ins.take k).all (insB c.ins.length c.pats.length) = true) (fun k => c.ins.length - k) 0 ⟨Nat.zero_le _, rfl⟩ (by simp +contextual -dsimp only [↓SD, SU, SB, Nat.reduceAdd, Nat.reduceBEq, Nat.reduceEqDiff, Nat.reduceLeDiff, Nat.reduceLT, Nat.reduceSub, ↓reduceIte, zA, zI, zN, reduceCtorEq, Int.reduceToNat, zE]) trivial ?_
    rintro k ⟨hk, hik⟩
    by_cases hlt : k < c.ins.length
    · have e := getD_map av c.ins k .top hlt
      have hm := List.getElem_mem hlt
      have C := l10InsOk_ok c c.ins[k] hl hq (hs _ hm) (hr _ hm)
      have hno : insB c.ins.length c.pats.length c.ins[k] = false → c.ins.all (insB c.ins.length c.pats.length) = false := fun h => all_false' _ hlt h
      have hyes : insB c.ins.length c.pats.length c.ins[k] = true → (c.ins.take (k + 1)).all (insB c.ins.length c.pats.length) = true := fun h => by rw [all_take' _ hlt hik]; exact h
      generalize c.ins[k] = i at *
      rw [av_Code, av_Ins] at C
      simp +contextual -dsimp (maxSteps := 2000000) only [↓SD, SU, SB, Nat.reduceAdd, Nat.reduceBEq, Nat.reduceEqDiff, Nat.reduceLeDiff, Nat.reduceLT, Nat.reduceSub, ↓reduceIte, zA, zI, zN, reduceCtorEq, Int.reduceToNat, zE, map_len, hlt, e, av_Ins]
      intro v
      refine aCallK_of _ C ?_
      simp +contextual -dsimp (maxSteps := 2000000) only [↓SD, SU, SB, Nat.reduceAdd, Nat.reduceBEq, Nat.reduceEqDiff, Nat.reduceLeDiff, Nat.reduceLT, Nat.reduceSub, ↓reduceIte, zA, zI, zN, reduceCtorEq, Int.reduceToNat, zE]
      refine ⟨fun h => by rw [hno h], fun h => ⟨by omega, Goes.le ⟨k + 1, ⟨⟨hlt, hyes h⟩, (by first | omega | (simp only; omega))⟩, rfl⟩ (by simp +contextual -dsimp only [↓SD, SU, SB, Nat.reduceAdd, Nat.reduceBEq, Nat.reduceEqDiff, Nat.reduceLeDiff, Nat.reduceLT, Nat.reduceSub, ↓reduceIte, zA, zI, zN, reduceCtorEq, Int.reduceToNat, zE, Int.natCast_add]) trivial⟩⟩
    · obtain rfl : k = c.ins.length := by omega
      rw [List.take_length] at hik
      simp +contextual -dsimp (maxSteps := 2000000) only [↓SD, SU, SB, Nat.reduceAdd, Nat.reduceBEq, Nat.reduceEqDiff, Nat.reduceLeDiff, Nat.reduceLT, Nat.reduceSub, ↓reduceIte, zA, zI, zN, reduceCtorEq, Int.reduceToNat, zE, map_len, Nat.lt_irrefl, hik]
end Go.Proofs.YtabifanjbckchaaGreat
