/-
  MARKS OF INTS, CELLS AND VALUES, by abstract texts. Conditions: the marks fit an int.
-/
import Derived.Test.YtpnnhgminiihnaaShowP
import Derived.Test.YtpnnhgminiihnaaIrMarks6
import Derived.Test.YtpnnhgminiihnaaGHeap
set_option linter.unusedVariables false
set_option linter.unusedSimpArgs false
set_option maxRecDepth 100000
namespace Go.Proofs.Ytpnnhgminiihnaa
open Go.RowKit Go.Proofs.Ytpnnhgminiihnaa.Av Go.Proofs.Ytpnnhgminiihnaa.Ml
open Go.Proofs.Ytpnnhgminiihnaa.Av.AVal (av)

def markS (k : Int) : ByteArray := ⟨#[109]⟩ ++ digS k.toNat
structure TS where
  m : Nat
  s : ByteArray
theorem bs_nil : bs [] = ByteArray.empty := rfl
theorem markText_ok (k : Nat) (h1 : 1 ≤ k) (h2 : k ≤ 4611686018427387904) : CallsF Try.prog 40 [.int .i64 (k : Int)] (.str (markS k)) := by
  refine fun_laws_markText rfl (by simp; exact pint _) (AvPure.str _) ?_
  have h0 : ¬ (k : Int) ≤ 0 := by omega
  simp +contextual -dsimp (maxSteps := 2000000) only [↓SD, SU, SB, Nat.reduceAdd, Nat.reduceBEq, Nat.reduceEqDiff, Nat.reduceLeDiff, Nat.reduceLT, Nat.reduceSub, ↓reduceIte, forall_const, implies_true, ne_eq, reduceCtorEq, Int.reduceToNat, forall_eq, Int.reduceEq, Int.reduceLT, Int.reduceLE, Int.reduceNeg, Int.reduceAdd, Int.reduceSub, ir_laws_markText, rs_laws_markText, h0]
  refine aLoop_of (X := TS) (fun x => ⟨[(0, .int .i64 (x.m : Int)), (3, .str x.s)], []⟩) (fun x => x.m ≤ k ∧ (0 < x.m → digS k = digS x.m ++ x.s) ∧ (x.m = 0 → digS k = x.s)) (fun x => x.m) ⟨k, bs []⟩ ⟨Nat.le_refl _, fun _ => by rw [bs_nil, ByteArray.append_empty], fun h => by dsimp only at h; omega⟩ (by simp +contextual -dsimp (maxSteps := 2000000) only [↓SD, SU, SB, Nat.reduceAdd, Nat.reduceBEq, Nat.reduceEqDiff, Nat.reduceLeDiff, Nat.reduceLT, Nat.reduceSub, ↓reduceIte, forall_const, implies_true, ne_eq, reduceCtorEq, Int.reduceToNat, forall_eq]) trivial ?_
  rintro ⟨m, s⟩ ⟨hm, hs1, hs0⟩
  dsimp only at hm hs1 hs0
  have hdl := digS_le k (by omega)
  by_cases hp : 0 < m
  · have hp' : 0 < (m : Int) := by omega
    have e := hs1 hp
    have hsz : s.size ≤ 64 := by rw [e, ByteArray.size_append] at hdl; omega
    have h48 : (48 : Int) + ((m : Int).tmod 10) = ((48 + m % 10 : Nat) : Int) := by rw [Int.tmod_eq_emod_of_nonneg (by omega)]; rfl
    have h10 : (m : Int).tdiv 10 = ((m / 10 : Nat) : Int) := by rw [Int.tdiv_eq_ediv_of_nonneg (by omega)]; rfl
    have hin : (0 : Int) ≤ (m : Int).tmod 10 ∧ (m : Int).tmod 10 < 10 := by rw [Int.tmod_eq_emod_of_nonneg (by omega)]; omega
    simp +contextual -dsimp (maxSteps := 2000000) only [↓SD, SU, SB, Nat.reduceAdd, Nat.reduceBEq, Nat.reduceEqDiff, Nat.reduceLeDiff, Nat.reduceLT, Nat.reduceSub, ↓reduceIte, forall_const, implies_true, ne_eq, reduceCtorEq, Int.reduceToNat, forall_eq, Int.reduceEq, Int.reduceLT, Int.reduceLE, Int.reduceNeg, Int.reduceAdd, Int.reduceSub, hp', h48, h10]
    refine ⟨by omega, by omega, by omega, ?_⟩
    refine b2s_of _ _ [UInt8.ofNat (48 + m % 10)] rfl (by rw [List.map_cons, List.map_nil, av_byte _ (by omega)]) ?_
    have h5 : (⟨[UInt8.ofNat (48 + m % 10)].toArray⟩ : ByteArray).size = 1 := rfl
    simp +contextual -dsimp (maxSteps := 2000000) only [↓SD, SU, SB, Nat.reduceAdd, Nat.reduceBEq, Nat.reduceEqDiff, Nat.reduceLeDiff, Nat.reduceLT, Nat.reduceSub, ↓reduceIte, forall_const, implies_true, ne_eq, reduceCtorEq, Int.reduceToNat, forall_eq, Int.reduceEq, Int.reduceLT, Int.reduceLE, Int.reduceNeg, Int.reduceAdd, Int.reduceSub, hp', h48, h10, h5]
    refine ⟨by unfold maxLen; omega, by omega, Goes.le ⟨⟨m / 10, ⟨[UInt8.ofNat (48 + m % 10)].toArray⟩ ++ s⟩, ⟨⟨by dsimp only; omega, fun h => ?_, fun h => ?_⟩, by dsimp only; omega⟩, rfl⟩ (by simp +contextual -dsimp (maxSteps := 2000000) only [↓SD, SU, SB, Nat.reduceAdd, Nat.reduceBEq, Nat.reduceEqDiff, Nat.reduceLeDiff, Nat.reduceLT, Nat.reduceSub, ↓reduceIte, forall_const, implies_true, ne_eq, reduceCtorEq, Int.reduceToNat, forall_eq]) trivial⟩
    · dsimp only at h ⊢
      rw [e, digS_great (by omega), ByteArray.append_assoc]
    · dsimp only at h ⊢
      rw [e, digS_small (by omega)]
      have : m % 10 = m := by omega
      rw [this]
  · have h0' : ¬ 0 < (m : Int) := by omega
    have e := hs0 (by omega)
    have hsz : s.size ≤ 64 := by rw [e] at hdl; omega
    have hb : bs [109] = (⟨#[109]⟩ : ByteArray) := rfl
    have h5 : (⟨#[109]⟩ : ByteArray).size = 1 := rfl
    have hr : markS (k : Int) = ⟨#[109]⟩ ++ s := by unfold markS; rw [Int.toNat_natCast, e]
    rw [hr]
    simp +contextual -dsimp (maxSteps := 2000000) only [↓SD, SU, SB, Nat.reduceAdd, Nat.reduceBEq, Nat.reduceEqDiff, Nat.reduceLeDiff, Nat.reduceLT, Nat.reduceSub, ↓reduceIte, forall_const, implies_true, ne_eq, reduceCtorEq, Int.reduceToNat, forall_eq, Int.reduceEq, Int.reduceLT, Int.reduceLE, Int.reduceNeg, Int.reduceAdd, Int.reduceSub, h0', hb, h5]
    unfold maxLen; omega
/-- ints as they are marked from k on -/
def mkI (k : Int) (n : Nat) : List Int := (List.range n).map fun (i : Nat) => k + (i : Int)
theorem mkI_len (k : Int) (n : Nat) : (mkI k n).length = n := by simp [mkI]
def mkIto (k : Int) (l : List Int) (i : Nat) : List Int := mkI k i ++ l.drop i
theorem mkIto_len {k : Int} {l : List Int} {i : Nat} (h : i ≤ l.length) : (mkIto k l i).length = l.length := by simp [mkIto, mkI_len]; omega
theorem mkIto_set {k : Int} {l : List Int} {i : Nat} (h : i < l.length) : (mkIto k l i).set i (k + (i : Int)) = mkIto k l (i + 1) := by
  unfold mkIto
  rw [List.set_append_right _ _ (by rw [mkI_len]; exact Nat.le_refl _), mkI_len, Nat.sub_self, List.drop_eq_getElem_cons h, List.set_cons_zero]
  unfold mkI
  rw [List.range_succ, List.map_append, List.append_assoc]; rfl
def MkIPost (kk v : Nat) (k : Int) (n : Nat) (r : AV) (hp' : Hp) : Prop := r = .int .i64 (k + (n : Int)) ∧ hp' = [(kk, ⟨v, false, 3, 1, (mkI k n).map av⟩)]
theorem markIntS_ok (kk v : Nat) (l : List Int) (k : Int) (h0 : 1 ≤ k) (h1 : k + (l.length : Int) ≤ 4611686018427387904) : CallsH Try.prog 22 [.row kk v l.length, .int .i64 k] [(kk, ⟨v, false, 3, 1, l.map av⟩)] (MkIPost kk v k l.length) := by
  refine funH_laws_markIntS rfl ?_
  simp +contextual -dsimp (maxSteps := 2000000) only [↓SD, SU, SB, Nat.reduceAdd, Nat.reduceBEq, Nat.reduceEqDiff, Nat.reduceLeDiff, Nat.reduceLT, Nat.reduceSub, ↓reduceIte, forall_const, implies_true, ne_eq, reduceCtorEq, Int.reduceToNat, forall_eq, Int.reduceEq, Int.reduceLT, Int.reduceLE, Int.reduceNeg, Int.reduceAdd, Int.reduceSub, ir_laws_markIntS, rs_laws_markIntS, map_len]
  refine aLoop_of (X := Nat) (fun i => ⟨[(0, .row kk v l.length), (1, .int .i64 (k + (i : Int))), (5, .int .i64 i)], [(kk, ⟨v, false, 3, 1, (mkIto k l i).map av⟩)]⟩) (fun i => i ≤ l.length) (fun i => l.length - i) 0 (Nat.zero_le _) (by simp +contextual -dsimp (maxSteps := 2000000) only [↓SD, SU, SB, Nat.reduceAdd, Nat.reduceBEq, Nat.reduceEqDiff, Nat.reduceLeDiff, Nat.reduceLT, Nat.reduceSub, ↓reduceIte, forall_const, implies_true, ne_eq, reduceCtorEq, Int.reduceToNat, forall_eq, Int.reduceEq, Int.reduceLT, Int.reduceLE, Int.reduceNeg, Int.reduceAdd, Int.reduceSub, Int.natCast_zero, Int.add_zero]) (by simp +contextual -dsimp (maxSteps := 2000000) only [↓SD, SU, SB, Nat.reduceAdd, Nat.reduceBEq, Nat.reduceEqDiff, Nat.reduceLeDiff, Nat.reduceLT, Nat.reduceSub, ↓reduceIte, forall_const, implies_true, ne_eq, reduceCtorEq, Int.reduceToNat, forall_eq, mkIto, mkI, List.range_zero, List.drop_zero]) ?_
  rintro i hi
  by_cases hlt : i < l.length
  · have e := getD_map av (mkIto k l i) i .top (by rw [mkIto_len (by omega)]; exact hlt)
    have hs : ((mkIto k l i).map (av : Int → AV)).set i (.int .i64 (k + (i : Int))) = (mkIto k l (i + 1)).map av := by rw [← mkIto_set hlt, List.map_set]; rfl
    rw [av_int] at e
    simp +contextual -dsimp (maxSteps := 2000000) only [↓SD, SU, SB, Nat.reduceAdd, Nat.reduceBEq, Nat.reduceEqDiff, Nat.reduceLeDiff, Nat.reduceLT, Nat.reduceSub, ↓reduceIte, forall_const, implies_true, ne_eq, reduceCtorEq, Int.reduceToNat, forall_eq, Int.reduceEq, Int.reduceLT, Int.reduceLE, Int.reduceNeg, Int.reduceAdd, Int.reduceSub, hlt, map_len, mkIto_len (Nat.le_of_lt hlt), e, hs]
    exact ⟨by omega, by omega, Goes.le ⟨i + 1, ⟨hlt, (by first | omega | (simp only; omega))⟩, rfl⟩ (by simp +contextual -dsimp (maxSteps := 2000000) only [↓SD, SU, SB, Nat.reduceAdd, Nat.reduceBEq, Nat.reduceEqDiff, Nat.reduceLeDiff, Nat.reduceLT, Nat.reduceSub, ↓reduceIte, forall_const, implies_true, ne_eq, reduceCtorEq, Int.reduceToNat, forall_eq, Int.natCast_add, Int.add_assoc]) (by simp +contextual -dsimp (maxSteps := 2000000) only [↓SD, SU, SB, Nat.reduceAdd, Nat.reduceBEq, Nat.reduceEqDiff, Nat.reduceLeDiff, Nat.reduceLT, Nat.reduceSub, ↓reduceIte, forall_const, implies_true, ne_eq, reduceCtorEq, Int.reduceToNat, forall_eq])⟩
  · obtain rfl : i = l.length := by omega
    have hf : mkIto k l l.length = mkI k l.length := by simp [mkIto]
    rw [hf]
    simp +contextual -dsimp (maxSteps := 2000000) only [↓SD, SU, SB, Nat.reduceAdd, Nat.reduceBEq, Nat.reduceEqDiff, Nat.reduceLeDiff, Nat.reduceLT, Nat.reduceSub, ↓reduceIte, forall_const, implies_true, ne_eq, reduceCtorEq, Int.reduceToNat, forall_eq, Int.reduceEq, Int.reduceLT, Int.reduceLE, Int.reduceNeg, Int.reduceAdd, Int.reduceSub, Nat.lt_irrefl, map_len]
    refine Goes.post [(kk, ⟨v, false, 3, 1, (mkI k l.length).map av⟩)] ?_
    simp +contextual -dsimp (maxSteps := 2000000) only [↓SD, SU, SB, Nat.reduceAdd, Nat.reduceBEq, Nat.reduceEqDiff, Nat.reduceLeDiff, Nat.reduceLT, Nat.reduceSub, ↓reduceIte, forall_const, implies_true, ne_eq, reduceCtorEq, Int.reduceToNat, forall_eq]
    exact ⟨rfl, rfl⟩
theorem heldIntS_ok (n : Nat) (k : Int) (h0 : 1 ≤ k) (h1 : k + (n : Int) ≤ 4611686018427387904) : CallsF Try.prog 23 [.sl ((mkI k n).map av), .int .i64 k] (.int .i64 (k + (n : Int))) := by
  refine fun_laws_heldIntS rfl (by simp; exact ⟨lav_clean _, pint _⟩) (pint _) ?_
  simp +contextual -dsimp (maxSteps := 2000000) only [↓SD, SU, SB, Nat.reduceAdd, Nat.reduceBEq, Nat.reduceEqDiff, Nat.reduceLeDiff, Nat.reduceLT, Nat.reduceSub, ↓reduceIte, forall_const, implies_true, ne_eq, reduceCtorEq, Int.reduceToNat, forall_eq, Int.reduceEq, Int.reduceLT, Int.reduceLE, Int.reduceNeg, Int.reduceAdd, Int.reduceSub, ir_laws_heldIntS, rs_laws_heldIntS, map_len, mkI_len]
  refine aLoop_of (X := Nat) (fun i => ⟨[(0, .sl ((mkI k n).map av)), (1, .int .i64 (k + (i : Int))), (5, .int .i64 i)], []⟩) (fun i => i ≤ n) (fun i => n - i) 0 (Nat.zero_le _) (by simp +contextual -dsimp (maxSteps := 2000000) only [↓SD, SU, SB, Nat.reduceAdd, Nat.reduceBEq, Nat.reduceEqDiff, Nat.reduceLeDiff, Nat.reduceLT, Nat.reduceSub, ↓reduceIte, forall_const, implies_true, ne_eq, reduceCtorEq, Int.reduceToNat, forall_eq, Int.reduceEq, Int.reduceLT, Int.reduceLE, Int.reduceNeg, Int.reduceAdd, Int.reduceSub, Int.natCast_zero, Int.add_zero]) trivial ?_
  rintro i hi
  by_cases hlt : i < n
  · have e := getD_map av (mkI k n) i .top (by rw [mkI_len]; exact hlt)
    have hg : (mkI k n)[i]'(by rw [mkI_len]; exact hlt) = k + (i : Int) := by simp [mkI]
    rw [hg, av_int] at e
    simp +contextual -dsimp (maxSteps := 2000000) only [↓SD, SU, SB, Nat.reduceAdd, Nat.reduceBEq, Nat.reduceEqDiff, Nat.reduceLeDiff, Nat.reduceLT, Nat.reduceSub, ↓reduceIte, forall_const, implies_true, ne_eq, reduceCtorEq, Int.reduceToNat, forall_eq, Int.reduceEq, Int.reduceLT, Int.reduceLE, Int.reduceNeg, Int.reduceAdd, Int.reduceSub, hlt, map_len, mkI_len, e]
    exact ⟨by omega, by omega, Goes.le ⟨i + 1, ⟨hlt, (by first | omega | (simp only; omega))⟩, rfl⟩ (by simp +contextual -dsimp (maxSteps := 2000000) only [↓SD, SU, SB, Nat.reduceAdd, Nat.reduceBEq, Nat.reduceEqDiff, Nat.reduceLeDiff, Nat.reduceLT, Nat.reduceSub, ↓reduceIte, forall_const, implies_true, ne_eq, reduceCtorEq, Int.reduceToNat, forall_eq, Int.natCast_add, Int.add_assoc]) trivial⟩
  · obtain rfl : i = n := by omega
    simp +contextual -dsimp (maxSteps := 2000000) only [↓SD, SU, SB, Nat.reduceAdd, Nat.reduceBEq, Nat.reduceEqDiff, Nat.reduceLeDiff, Nat.reduceLT, Nat.reduceSub, ↓reduceIte, forall_const, implies_true, ne_eq, reduceCtorEq, Int.reduceToNat, forall_eq, Int.reduceEq, Int.reduceLT, Int.reduceLE, Int.reduceNeg, Int.reduceAdd, Int.reduceSub, Nat.lt_irrefl, map_len, mkI_len]
theorem eqIntS_ok (l : List Int) (hl : l.length ≤ 1048576) : CallsF Try.prog 18 [.sl (l.map av), .sl (l.map av)] (.bool true) := by
  refine fun_laws_eqIntS rfl (by simp; exact lav_clean l) (AvPure.bool _) ?_
  simp +contextual -dsimp (maxSteps := 2000000) only [↓SD, SU, SB, Nat.reduceAdd, Nat.reduceBEq, Nat.reduceEqDiff, Nat.reduceLeDiff, Nat.reduceLT, Nat.reduceSub, ↓reduceIte, forall_const, implies_true, ne_eq, reduceCtorEq, Int.reduceToNat, forall_eq, Int.reduceEq, Int.reduceLT, Int.reduceLE, Int.reduceNeg, Int.reduceAdd, Int.reduceSub, ir_laws_eqIntS, rs_laws_eqIntS, map_len]
  refine aLoop_of (X := Nat) (fun i => ⟨[(0, .sl (l.map av)), (1, .sl (l.map av)), (5, .int .i64 i)], []⟩) (fun i => i ≤ l.length) (fun i => l.length - i) 0 (Nat.zero_le _) (by simp +contextual -dsimp (maxSteps := 2000000) only [↓SD, SU, SB, Nat.reduceAdd, Nat.reduceBEq, Nat.reduceEqDiff, Nat.reduceLeDiff, Nat.reduceLT, Nat.reduceSub, ↓reduceIte, forall_const, implies_true, ne_eq, reduceCtorEq, Int.reduceToNat, forall_eq]) trivial ?_
  rintro i hi
  by_cases hlt : i < l.length
  · have e := getD_map av l i .top hlt
    rw [av_int] at e
    simp +contextual -dsimp (maxSteps := 2000000) only [↓SD, SU, SB, Nat.reduceAdd, Nat.reduceBEq, Nat.reduceEqDiff, Nat.reduceLeDiff, Nat.reduceLT, Nat.reduceSub, ↓reduceIte, forall_const, implies_true, ne_eq, reduceCtorEq, Int.reduceToNat, forall_eq, Int.reduceEq, Int.reduceLT, Int.reduceLE, Int.reduceNeg, Int.reduceAdd, Int.reduceSub, hlt, map_len, e]
    exact ⟨by omega, Goes.le ⟨i + 1, ⟨hlt, (by first | omega | (simp only; omega))⟩, rfl⟩ (by simp +contextual -dsimp (maxSteps := 2000000) only [↓SD, SU, SB, Nat.reduceAdd, Nat.reduceBEq, Nat.reduceEqDiff, Nat.reduceLeDiff, Nat.reduceLT, Nat.reduceSub, ↓reduceIte, forall_const, implies_true, ne_eq, reduceCtorEq, Int.reduceToNat, forall_eq, Int.natCast_add]) trivial⟩
  · obtain rfl : i = l.length := by omega
    simp +contextual -dsimp (maxSteps := 2000000) only [↓SD, SU, SB, Nat.reduceAdd, Nat.reduceBEq, Nat.reduceEqDiff, Nat.reduceLeDiff, Nat.reduceLT, Nat.reduceSub, ↓reduceIte, forall_const, implies_true, ne_eq, reduceCtorEq, Int.reduceToNat, forall_eq, Int.reduceEq, Int.reduceLT, Int.reduceLE, Int.reduceNeg, Int.reduceAdd, Int.reduceSub, Nat.lt_irrefl, map_len]
def ToCellPost (l : List Cell) (r : AV) (hp' : Hp) : Prop := ∃ v, r = .row 1007 v l.length ∧ hp' = [(1007, ⟨v, false, 53, 9, l.map av⟩)]
theorem toCellSH_ok (l : List Cell) (hx : Bulk.bulk l ≤ 1048576) : CallsH Try.prog 10 [.sl (l.map av)] [] (ToCellPost l) := by
  have hl := bulk_length l
  refine funH_laws_toCellS_H rfl ?_
  simp +contextual -dsimp (maxSteps := 2000000) only [↓SD, SU, SB, Nat.reduceAdd, Nat.reduceBEq, Nat.reduceEqDiff, Nat.reduceLeDiff, Nat.reduceLT, Nat.reduceSub, ↓reduceIte, forall_const, implies_true, ne_eq, reduceCtorEq, Int.reduceToNat, forall_eq, ir_laws_toCellS_H, rs_laws_toCellS_H, map_len]
  refine ⟨by omega, fun v => ?_⟩
  refine aLoop_of (X := Nat) (fun k => ⟨[(0, .sl (l.map av)), (3, .row 1007 v l.length), (4, .int .i64 k)], [(1007, ⟨v, false, 53, 9, fillL l (AV.agg [.int .i64 0, .int .i64 0, .str (bs []), .int .i64 0, .int .i64 0, .str (bs []), .int .i64 0, .int .i64 0, .str (bs [])]) k⟩)]⟩) (fun k => k ≤ l.length) (fun k => l.length - k) 0 (Nat.zero_le _) (by simp +contextual -dsimp (maxSteps := 2000000) only [↓SD, SU, SB, Nat.reduceAdd, Nat.reduceBEq, Nat.reduceEqDiff, Nat.reduceLeDiff, Nat.reduceLT, Nat.reduceSub, ↓reduceIte, forall_const, implies_true, ne_eq, reduceCtorEq, Int.reduceToNat, forall_eq]) (by simp +contextual -dsimp (maxSteps := 2000000) only [↓SD, SU, SB, Nat.reduceAdd, Nat.reduceBEq, Nat.reduceEqDiff, Nat.reduceLeDiff, Nat.reduceLT, Nat.reduceSub, ↓reduceIte, forall_const, implies_true, ne_eq, reduceCtorEq, Int.reduceToNat, forall_eq, fillL_zero]) ?_
  intro k hk
  by_cases hlt : k < l.length
  · have e := getD_map av l k .top hlt
    have e1 := fillL_len (AV.agg [.int .i64 0, .int .i64 0, .str (bs []), .int .i64 0, .int .i64 0, .str (bs []), .int .i64 0, .int .i64 0, .str (bs [])]) hk
    have e2 := fillL_get (AV.agg [.int .i64 0, .int .i64 0, .str (bs []), .int .i64 0, .int .i64 0, .str (bs []), .int .i64 0, .int .i64 0, .str (bs [])]) hlt .top
    have e3 := fillL_set (z := (AV.agg [.int .i64 0, .int .i64 0, .str (bs []), .int .i64 0, .int .i64 0, .str (bs []), .int .i64 0, .int .i64 0, .str (bs [])])) hlt rfl
    have hbk : Bulk.bulk l[k] ≤ 1048576 := by have := bulk_mem (List.getElem_mem hlt); omega
    rw [av_Cell] at e3
    simp +contextual -dsimp (maxSteps := 2000000) only [↓SD, SU, SB, Nat.reduceAdd, Nat.reduceBEq, Nat.reduceEqDiff, Nat.reduceLeDiff, Nat.reduceLT, Nat.reduceSub, ↓reduceIte, forall_const, implies_true, ne_eq, reduceCtorEq, Int.reduceToNat, forall_eq, map_len, hlt, e, av_Cell]
    have C := toCell_ok l[k] hbk
    rw [av_Cell] at C
    refine aCallK_of _ C ?_
    simp +contextual -dsimp (maxSteps := 2000000) only [↓SD, SU, SB, Nat.reduceAdd, Nat.reduceBEq, Nat.reduceEqDiff, Nat.reduceLeDiff, Nat.reduceLT, Nat.reduceSub, ↓reduceIte, forall_const, implies_true, ne_eq, reduceCtorEq, Int.reduceToNat, forall_eq, map_len, hlt, e, av_Cell, e1, e2, e3]
    refine ⟨by omega, Goes.le ⟨k + 1, ⟨hlt, (by first | omega | (simp only; omega))⟩, rfl⟩ (by simp +contextual -dsimp (maxSteps := 2000000) only [↓SD, SU, SB, Nat.reduceAdd, Nat.reduceBEq, Nat.reduceEqDiff, Nat.reduceLeDiff, Nat.reduceLT, Nat.reduceSub, ↓reduceIte, forall_const, implies_true, ne_eq, reduceCtorEq, Int.reduceToNat, forall_eq, Int.natCast_add]) (by simp +contextual -dsimp (maxSteps := 2000000) only [↓SD, SU, SB, Nat.reduceAdd, Nat.reduceBEq, Nat.reduceEqDiff, Nat.reduceLeDiff, Nat.reduceLT, Nat.reduceSub, ↓reduceIte, forall_const, implies_true, ne_eq, reduceCtorEq, Int.reduceToNat, forall_eq, e2, e3])⟩
  · obtain rfl : k = l.length := by omega
    simp +contextual -dsimp (maxSteps := 2000000) only [↓SD, SU, SB, Nat.reduceAdd, Nat.reduceBEq, Nat.reduceEqDiff, Nat.reduceLeDiff, Nat.reduceLT, Nat.reduceSub, ↓reduceIte, forall_const, implies_true, ne_eq, reduceCtorEq, Int.reduceToNat, forall_eq, map_len, Nat.lt_irrefl, fillL_full]
    refine Goes.post [(1007, ⟨v, false, 53, 9, l.map av⟩)] ?_
    simp +contextual -dsimp (maxSteps := 2000000) only [↓SD, SU, SB, Nat.reduceAdd, Nat.reduceBEq, Nat.reduceEqDiff, Nat.reduceLeDiff, Nat.reduceLT, Nat.reduceSub, ↓reduceIte, forall_const, implies_true, ne_eq, reduceCtorEq, Int.reduceToNat, forall_eq, map_len]
    exact ⟨v, rfl, rfl⟩
def ToValPost (l : List Val) (r : AV) (hp' : Hp) : Prop := ∃ v, r = .row 1008 v l.length ∧ hp' = [(1008, ⟨v, false, 30, 3, l.map av⟩)]
theorem toValSH_ok (l : List Val) (hx : Bulk.bulk l ≤ 1048576) : CallsH Try.prog 16 [.sl (l.map av)] [] (ToValPost l) := by
  have hl := bulk_length l
  refine funH_laws_toValS_H rfl ?_
  simp +contextual -dsimp (maxSteps := 2000000) only [↓SD, SU, SB, Nat.reduceAdd, Nat.reduceBEq, Nat.reduceEqDiff, Nat.reduceLeDiff, Nat.reduceLT, Nat.reduceSub, ↓reduceIte, forall_const, implies_true, ne_eq, reduceCtorEq, Int.reduceToNat, forall_eq, ir_laws_toValS_H, rs_laws_toValS_H, map_len]
  refine ⟨by omega, fun v => ?_⟩
  refine aLoop_of (X := Nat) (fun k => ⟨[(0, .sl (l.map av)), (3, .row 1008 v l.length), (4, .int .i64 k)], [(1008, ⟨v, false, 30, 3, fillL l (AV.agg [.int .i64 0, .int .i64 0, .str (bs [])]) k⟩)]⟩) (fun k => k ≤ l.length) (fun k => l.length - k) 0 (Nat.zero_le _) (by simp +contextual -dsimp (maxSteps := 2000000) only [↓SD, SU, SB, Nat.reduceAdd, Nat.reduceBEq, Nat.reduceEqDiff, Nat.reduceLeDiff, Nat.reduceLT, Nat.reduceSub, ↓reduceIte, forall_const, implies_true, ne_eq, reduceCtorEq, Int.reduceToNat, forall_eq]) (by simp +contextual -dsimp (maxSteps := 2000000) only [↓SD, SU, SB, Nat.reduceAdd, Nat.reduceBEq, Nat.reduceEqDiff, Nat.reduceLeDiff, Nat.reduceLT, Nat.reduceSub, ↓reduceIte, forall_const, implies_true, ne_eq, reduceCtorEq, Int.reduceToNat, forall_eq, fillL_zero]) ?_
  intro k hk
  by_cases hlt : k < l.length
  · have e := getD_map av l k .top hlt
    have e1 := fillL_len (AV.agg [.int .i64 0, .int .i64 0, .str (bs [])]) hk
    have e2 := fillL_get (AV.agg [.int .i64 0, .int .i64 0, .str (bs [])]) hlt .top
    have e3 := fillL_set (z := (AV.agg [.int .i64 0, .int .i64 0, .str (bs [])])) hlt rfl
    have hbk : Bulk.bulk l[k] ≤ 1048576 := by have := bulk_mem (List.getElem_mem hlt); omega
    rw [av_Val] at e3
    simp +contextual -dsimp (maxSteps := 2000000) only [↓SD, SU, SB, Nat.reduceAdd, Nat.reduceBEq, Nat.reduceEqDiff, Nat.reduceLeDiff, Nat.reduceLT, Nat.reduceSub, ↓reduceIte, forall_const, implies_true, ne_eq, reduceCtorEq, Int.reduceToNat, forall_eq, map_len, hlt, e, av_Val]
    have C := toVal_ok l[k] hbk
    rw [av_Val] at C
    refine aCallK_of _ C ?_
    simp +contextual -dsimp (maxSteps := 2000000) only [↓SD, SU, SB, Nat.reduceAdd, Nat.reduceBEq, Nat.reduceEqDiff, Nat.reduceLeDiff, Nat.reduceLT, Nat.reduceSub, ↓reduceIte, forall_const, implies_true, ne_eq, reduceCtorEq, Int.reduceToNat, forall_eq, map_len, hlt, e, av_Val, e1, e2, e3]
    refine ⟨by omega, Goes.le ⟨k + 1, ⟨hlt, (by first | omega | (simp only; omega))⟩, rfl⟩ (by simp +contextual -dsimp (maxSteps := 2000000) only [↓SD, SU, SB, Nat.reduceAdd, Nat.reduceBEq, Nat.reduceEqDiff, Nat.reduceLeDiff, Nat.reduceLT, Nat.reduceSub, ↓reduceIte, forall_const, implies_true, ne_eq, reduceCtorEq, Int.reduceToNat, forall_eq, Int.natCast_add]) (by simp +contextual -dsimp (maxSteps := 2000000) only [↓SD, SU, SB, Nat.reduceAdd, Nat.reduceBEq, Nat.reduceEqDiff, Nat.reduceLeDiff, Nat.reduceLT, Nat.reduceSub, ↓reduceIte, forall_const, implies_true, ne_eq, reduceCtorEq, Int.reduceToNat, forall_eq, e2, e3])⟩
  · obtain rfl : k = l.length := by omega
    simp +contextual -dsimp (maxSteps := 2000000) only [↓SD, SU, SB, Nat.reduceAdd, Nat.reduceBEq, Nat.reduceEqDiff, Nat.reduceLeDiff, Nat.reduceLT, Nat.reduceSub, ↓reduceIte, forall_const, implies_true, ne_eq, reduceCtorEq, Int.reduceToNat, forall_eq, map_len, Nat.lt_irrefl, fillL_full]
    refine Goes.post [(1008, ⟨v, false, 30, 3, l.map av⟩)] ?_
    simp +contextual -dsimp (maxSteps := 2000000) only [↓SD, SU, SB, Nat.reduceAdd, Nat.reduceBEq, Nat.reduceEqDiff, Nat.reduceLeDiff, Nat.reduceLT, Nat.reduceSub, ↓reduceIte, forall_const, implies_true, ne_eq, reduceCtorEq, Int.reduceToNat, forall_eq, map_len]
    exact ⟨v, rfl, rfl⟩
def mkVal (k : Int) : Val := ⟨k, k + 1, markS (k + 1 + 1)⟩
def mkValTo (k : Int) (l : List Val) (i : Nat) : List Val := ((List.range i).map fun (j : Nat) => mkVal (k + 3 * (j : Int))) ++ l.drop i
theorem mkValTo_len {k : Int} {l : List Val} {i : Nat} (h : i ≤ l.length) : (mkValTo k l i).length = l.length := by simp [mkValTo]; omega
theorem mkValTo_get {k : Int} {l : List Val} {i : Nat} (h : i < l.length) : (mkValTo k l i)[i]'(by rw [mkValTo_len (by omega)]; exact h) = l[i] := by
  unfold mkValTo
  rw [List.getElem_append_right (by simp)]
  simp
theorem mkValTo_set {k : Int} {l : List Val} {i : Nat} (h : i < l.length) : (mkValTo k l i).set i (mkVal (k + 3 * (i : Int))) = mkValTo k l (i + 1) := by
  unfold mkValTo
  rw [List.set_append_right _ _ (by simp), List.length_map, List.length_range, Nat.sub_self, List.drop_eq_getElem_cons h, List.set_cons_zero, List.range_succ, List.map_append, List.append_assoc]; rfl
def mkValL (k : Int) (n : Nat) : List Val := (List.range n).map fun (j : Nat) => mkVal (k + 3 * (j : Int))
theorem mkValL_len (k : Int) (n : Nat) : (mkValL k n).length = n := by simp [mkValL]
def MkValPost (kk v : Nat) (k : Int) (n : Nat) (r : AV) (hp' : Hp) : Prop := r = .int .i64 (k + 3 * (n : Int)) ∧ ∃ l' : List Val, (l'.length = n ∧ l' = mkValL k n) ∧ hp' = [(kk, ⟨v, false, 30, 3, l'.map av⟩)]
theorem markValS_ok (kk v : Nat) (l : List Val) (k : Int) (h0 : 1 ≤ k) (h1 : k + 3 * (l.length : Int) ≤ 4611686018427387904) : CallsH Try.prog 21 [.row kk v l.length, .int .i64 k] [(kk, ⟨v, false, 30, 3, l.map av⟩)] (MkValPost kk v k l.length) := by
  refine funH_laws_markValS rfl ?_
  simp +contextual -dsimp (maxSteps := 2000000) only [↓SD, SU, SB, Nat.reduceAdd, Nat.reduceBEq, Nat.reduceEqDiff, Nat.reduceLeDiff, Nat.reduceLT, Nat.reduceSub, ↓reduceIte, forall_const, implies_true, ne_eq, reduceCtorEq, Int.reduceToNat, forall_eq, Int.reduceEq, Int.reduceLT, Int.reduceLE, Int.reduceNeg, Int.reduceAdd, Int.reduceSub, ir_laws_markValS, rs_laws_markValS, map_len]
  refine aLoop_of (X := Nat) (fun i => ⟨[(0, .row kk v l.length), (1, .int .i64 (k + 3 * (i : Int))), (5, .int .i64 i)], [(kk, ⟨v, false, 30, 3, (mkValTo k l i).map av⟩)]⟩) (fun i => i ≤ l.length) (fun i => l.length - i) 0 (Nat.zero_le _) (by simp +contextual -dsimp (maxSteps := 2000000) only [↓SD, SU, SB, Nat.reduceAdd, Nat.reduceBEq, Nat.reduceEqDiff, Nat.reduceLeDiff, Nat.reduceLT, Nat.reduceSub, ↓reduceIte, forall_const, implies_true, ne_eq, reduceCtorEq, Int.reduceToNat, forall_eq, Int.reduceEq, Int.reduceLT, Int.reduceLE, Int.reduceNeg, Int.reduceAdd, Int.reduceSub, Int.natCast_zero, Int.mul_zero, Int.add_zero]) (by simp +contextual -dsimp (maxSteps := 2000000) only [↓SD, SU, SB, Nat.reduceAdd, Nat.reduceBEq, Nat.reduceEqDiff, Nat.reduceLeDiff, Nat.reduceLT, Nat.reduceSub, ↓reduceIte, forall_const, implies_true, ne_eq, reduceCtorEq, Int.reduceToNat, forall_eq, mkValTo, List.range_zero, List.drop_zero]) ?_
  rintro i hi
  by_cases hlt : i < l.length
  · have e := getD_map av (mkValTo k l i) i .top (by rw [mkValTo_len (by omega)]; exact hlt)
    rw [mkValTo_get hlt, av_Val] at e
    have hs : ((mkValTo k l i).map av).set i (av (mkVal (k + 3 * (i : Int)))) = (mkValTo k l (i + 1)).map av := by rw [← mkValTo_set hlt, List.map_set]
    have hlen : ((mkValTo k l i).map (av : Val → AV)).length = l.length := by rw [List.length_map, mkValTo_len (by omega)]
    have hK : k + 3 * ((i : Int) + 1) = k + 3 * (i : Int) + 1 + 1 + 1 := by omega
    have hb : k + 3 * (i : Int) + 1 + 1 + 1 ≤ 4611686018427387904 := by omega
    have hk1 : 1 ≤ k + 3 * (i : Int) := by omega
    rw [av_Val, mkVal] at hs
    obtain ⟨E, hE⟩ : ∃ E, E = (mkValTo k l i).map (av : Val → AV) := ⟨_, rfl⟩
    obtain ⟨K, hKe⟩ : ∃ K, K = k + 3 * (i : Int) := ⟨_, rfl⟩
    rw [← hE] at e hs hlen ⊢
    rw [← hKe] at hs hK hb hk1 ⊢
    have gs : ∀ a, (E.set i a).getD i .top = a := fun a => by rw [List.getD_eq_getElem?_getD, List.getElem?_set_self (by rw [hlen]; exact hlt)]; rfl
    have ls : ∀ a, (E.set i a).length = l.length := fun a => by rw [List.length_set, hlen]
    obtain ⟨N, hN⟩ : ∃ N : Nat, K = N := ⟨K.toNat, by omega⟩
    have M2 := markText_ok (N + 2) (by omega) (by omega)
    rw [show ((N + 2 : Nat) : Int) = K + 1 + 1 by omega] at M2
    clear hN
    simp +contextual -dsimp (maxSteps := 2000000) only [↓SD, SU, SB, Nat.reduceAdd, Nat.reduceBEq, Nat.reduceEqDiff, Nat.reduceLeDiff, Nat.reduceLT, Nat.reduceSub, ↓reduceIte, forall_const, implies_true, ne_eq, reduceCtorEq, Int.reduceToNat, forall_eq, Int.reduceEq, Int.reduceLT, Int.reduceLE, Int.reduceNeg, Int.reduceAdd, Int.reduceSub, hlt, hlen, e, gs, ls, List.set_set]
    refine ⟨by omega, by omega, ?_⟩
    refine aCallK_of _ M2 ?_
    simp +contextual -dsimp (maxSteps := 2000000) only [↓SD, SU, SB, Nat.reduceAdd, Nat.reduceBEq, Nat.reduceEqDiff, Nat.reduceLeDiff, Nat.reduceLT, Nat.reduceSub, ↓reduceIte, forall_const, implies_true, ne_eq, reduceCtorEq, Int.reduceToNat, forall_eq, Int.reduceEq, Int.reduceLT, Int.reduceLE, Int.reduceNeg, Int.reduceAdd, Int.reduceSub, hlt, hlen, e, gs, ls, List.set_set]
    rw [hs]
    exact ⟨by omega, by omega, Goes.le ⟨i + 1, ⟨hlt, (by first | omega | (simp only; omega))⟩, rfl⟩ (by simp +contextual -dsimp (maxSteps := 2000000) only [↓SD, SU, SB, Nat.reduceAdd, Nat.reduceBEq, Nat.reduceEqDiff, Nat.reduceLeDiff, Nat.reduceLT, Nat.reduceSub, ↓reduceIte, forall_const, implies_true, ne_eq, reduceCtorEq, Int.reduceToNat, forall_eq, Int.natCast_add, hK]) (by simp +contextual -dsimp (maxSteps := 2000000) only [↓SD, SU, SB, Nat.reduceAdd, Nat.reduceBEq, Nat.reduceEqDiff, Nat.reduceLeDiff, Nat.reduceLT, Nat.reduceSub, ↓reduceIte, forall_const, implies_true, ne_eq, reduceCtorEq, Int.reduceToNat, forall_eq])⟩
  · obtain rfl : i = l.length := by omega
    simp +contextual -dsimp (maxSteps := 2000000) only [↓SD, SU, SB, Nat.reduceAdd, Nat.reduceBEq, Nat.reduceEqDiff, Nat.reduceLeDiff, Nat.reduceLT, Nat.reduceSub, ↓reduceIte, forall_const, implies_true, ne_eq, reduceCtorEq, Int.reduceToNat, forall_eq, Int.reduceEq, Int.reduceLT, Int.reduceLE, Int.reduceNeg, Int.reduceAdd, Int.reduceSub, Nat.lt_irrefl, map_len]
    refine Goes.post [(kk, ⟨v, false, 30, 3, (mkValTo k l l.length).map av⟩)] ?_
    simp +contextual -dsimp (maxSteps := 2000000) only [↓SD, SU, SB, Nat.reduceAdd, Nat.reduceBEq, Nat.reduceEqDiff, Nat.reduceLeDiff, Nat.reduceLT, Nat.reduceSub, ↓reduceIte, forall_const, implies_true, ne_eq, reduceCtorEq, Int.reduceToNat, forall_eq]
    exact ⟨rfl, _, ⟨mkValTo_len (Nat.le_refl _), by simp [mkValTo, mkValL]⟩, rfl⟩
def mkCell (k : Int) : Cell := ⟨k, k + 1, markS (k + 1 + 1), ⟨k + 1 + 1 + 1, k + 1 + 1 + 1 + 1, markS (k + 1 + 1 + 1 + 1 + 1)⟩, ⟨k + 1 + 1 + 1 + 1 + 1 + 1, k + 1 + 1 + 1 + 1 + 1 + 1 + 1, markS (k + 1 + 1 + 1 + 1 + 1 + 1 + 1 + 1)⟩⟩
def mkCellTo (k : Int) (l : List Cell) (i : Nat) : List Cell := ((List.range i).map fun (j : Nat) => mkCell (k + 9 * (j : Int))) ++ l.drop i
theorem mkCellTo_len {k : Int} {l : List Cell} {i : Nat} (h : i ≤ l.length) : (mkCellTo k l i).length = l.length := by simp [mkCellTo]; omega
theorem mkCellTo_get {k : Int} {l : List Cell} {i : Nat} (h : i < l.length) : (mkCellTo k l i)[i]'(by rw [mkCellTo_len (by omega)]; exact h) = l[i] := by
  unfold mkCellTo
  rw [List.getElem_append_right (by simp)]
  simp
theorem mkCellTo_set {k : Int} {l : List Cell} {i : Nat} (h : i < l.length) : (mkCellTo k l i).set i (mkCell (k + 9 * (i : Int))) = mkCellTo k l (i + 1) := by
  unfold mkCellTo
  rw [List.set_append_right _ _ (by simp), List.length_map, List.length_range, Nat.sub_self, List.drop_eq_getElem_cons h, List.set_cons_zero, List.range_succ, List.map_append, List.append_assoc]; rfl
def mkCellL (k : Int) (n : Nat) : List Cell := (List.range n).map fun (j : Nat) => mkCell (k + 9 * (j : Int))
theorem mkCellL_len (k : Int) (n : Nat) : (mkCellL k n).length = n := by simp [mkCellL]
def MkCellPost (kk v : Nat) (k : Int) (n : Nat) (r : AV) (hp' : Hp) : Prop := r = .int .i64 (k + 9 * (n : Int)) ∧ ∃ l' : List Cell, (l'.length = n ∧ l' = mkCellL k n) ∧ hp' = [(kk, ⟨v, false, 53, 9, l'.map av⟩)]
theorem markCellS_ok (kk v : Nat) (l : List Cell) (k : Int) (h0 : 1 ≤ k) (h1 : k + 9 * (l.length : Int) ≤ 4611686018427387904) : CallsH Try.prog 20 [.row kk v l.length, .int .i64 k] [(kk, ⟨v, false, 53, 9, l.map av⟩)] (MkCellPost kk v k l.length) := by
  refine funH_laws_markCellS rfl ?_
  simp +contextual -dsimp (maxSteps := 2000000) only [↓SD, SU, SB, Nat.reduceAdd, Nat.reduceBEq, Nat.reduceEqDiff, Nat.reduceLeDiff, Nat.reduceLT, Nat.reduceSub, ↓reduceIte, forall_const, implies_true, ne_eq, reduceCtorEq, Int.reduceToNat, forall_eq, Int.reduceEq, Int.reduceLT, Int.reduceLE, Int.reduceNeg, Int.reduceAdd, Int.reduceSub, ir_laws_markCellS, rs_laws_markCellS, map_len]
  refine aLoop_of (X := Nat) (fun i => ⟨[(0, .row kk v l.length), (1, .int .i64 (k + 9 * (i : Int))), (5, .int .i64 i)], [(kk, ⟨v, false, 53, 9, (mkCellTo k l i).map av⟩)]⟩) (fun i => i ≤ l.length) (fun i => l.length - i) 0 (Nat.zero_le _) (by simp +contextual -dsimp (maxSteps := 2000000) only [↓SD, SU, SB, Nat.reduceAdd, Nat.reduceBEq, Nat.reduceEqDiff, Nat.reduceLeDiff, Nat.reduceLT, Nat.reduceSub, ↓reduceIte, forall_const, implies_true, ne_eq, reduceCtorEq, Int.reduceToNat, forall_eq, Int.reduceEq, Int.reduceLT, Int.reduceLE, Int.reduceNeg, Int.reduceAdd, Int.reduceSub, Int.natCast_zero, Int.mul_zero, Int.add_zero]) (by simp +contextual -dsimp (maxSteps := 2000000) only [↓SD, SU, SB, Nat.reduceAdd, Nat.reduceBEq, Nat.reduceEqDiff, Nat.reduceLeDiff, Nat.reduceLT, Nat.reduceSub, ↓reduceIte, forall_const, implies_true, ne_eq, reduceCtorEq, Int.reduceToNat, forall_eq, mkCellTo, List.range_zero, List.drop_zero]) ?_
  rintro i hi
  by_cases hlt : i < l.length
  · have e := getD_map av (mkCellTo k l i) i .top (by rw [mkCellTo_len (by omega)]; exact hlt)
    rw [mkCellTo_get hlt, av_Cell] at e
    have hs : ((mkCellTo k l i).map av).set i (av (mkCell (k + 9 * (i : Int)))) = (mkCellTo k l (i + 1)).map av := by rw [← mkCellTo_set hlt, List.map_set]
    have hlen : ((mkCellTo k l i).map (av : Cell → AV)).length = l.length := by rw [List.length_map, mkCellTo_len (by omega)]
    have hK : k + 9 * ((i : Int) + 1) = k + 9 * (i : Int) + 1 + 1 + 1 + 1 + 1 + 1 + 1 + 1 + 1 := by omega
    have hb : k + 9 * (i : Int) + 1 + 1 + 1 + 1 + 1 + 1 + 1 + 1 + 1 ≤ 4611686018427387904 := by omega
    have hk1 : 1 ≤ k + 9 * (i : Int) := by omega
    rw [av_Cell, mkCell] at hs
    obtain ⟨E, hE⟩ : ∃ E, E = (mkCellTo k l i).map (av : Cell → AV) := ⟨_, rfl⟩
    obtain ⟨K, hKe⟩ : ∃ K, K = k + 9 * (i : Int) := ⟨_, rfl⟩
    rw [← hE] at e hs hlen ⊢
    rw [← hKe] at hs hK hb hk1 ⊢
    have gs : ∀ a, (E.set i a).getD i .top = a := fun a => by rw [List.getD_eq_getElem?_getD, List.getElem?_set_self (by rw [hlen]; exact hlt)]; rfl
    have ls : ∀ a, (E.set i a).length = l.length := fun a => by rw [List.length_set, hlen]
    obtain ⟨N, hN⟩ : ∃ N : Nat, K = N := ⟨K.toNat, by omega⟩
    have M2 := markText_ok (N + 2) (by omega) (by omega)
    rw [show ((N + 2 : Nat) : Int) = K + 1 + 1 by omega] at M2
    have M5 := markText_ok (N + 5) (by omega) (by omega)
    rw [show ((N + 5 : Nat) : Int) = K + 1 + 1 + 1 + 1 + 1 by omega] at M5
    have M8 := markText_ok (N + 8) (by omega) (by omega)
    rw [show ((N + 8 : Nat) : Int) = K + 1 + 1 + 1 + 1 + 1 + 1 + 1 + 1 by omega] at M8
    clear hN
    simp +contextual -dsimp (maxSteps := 2000000) only [↓SD, SU, SB, Nat.reduceAdd, Nat.reduceBEq, Nat.reduceEqDiff, Nat.reduceLeDiff, Nat.reduceLT, Nat.reduceSub, ↓reduceIte, forall_const, implies_true, ne_eq, reduceCtorEq, Int.reduceToNat, forall_eq, Int.reduceEq, Int.reduceLT, Int.reduceLE, Int.reduceNeg, Int.reduceAdd, Int.reduceSub, hlt, hlen, e, gs, ls, List.set_set]
    refine ⟨by omega, by omega, ?_⟩
    refine aCallK_of _ M2 ?_
    simp +contextual -dsimp (maxSteps := 2000000) only [↓SD, SU, SB, Nat.reduceAdd, Nat.reduceBEq, Nat.reduceEqDiff, Nat.reduceLeDiff, Nat.reduceLT, Nat.reduceSub, ↓reduceIte, forall_const, implies_true, ne_eq, reduceCtorEq, Int.reduceToNat, forall_eq, Int.reduceEq, Int.reduceLT, Int.reduceLE, Int.reduceNeg, Int.reduceAdd, Int.reduceSub, hlt, hlen, e, gs, ls, List.set_set]
    refine ⟨by omega, by omega, by omega, ?_⟩
    refine aCallK_of _ M5 ?_
    simp +contextual -dsimp (maxSteps := 2000000) only [↓SD, SU, SB, Nat.reduceAdd, Nat.reduceBEq, Nat.reduceEqDiff, Nat.reduceLeDiff, Nat.reduceLT, Nat.reduceSub, ↓reduceIte, forall_const, implies_true, ne_eq, reduceCtorEq, Int.reduceToNat, forall_eq, Int.reduceEq, Int.reduceLT, Int.reduceLE, Int.reduceNeg, Int.reduceAdd, Int.reduceSub, hlt, hlen, e, gs, ls, List.set_set]
    refine ⟨by omega, by omega, by omega, ?_⟩
    refine aCallK_of _ M8 ?_
    simp +contextual -dsimp (maxSteps := 2000000) only [↓SD, SU, SB, Nat.reduceAdd, Nat.reduceBEq, Nat.reduceEqDiff, Nat.reduceLeDiff, Nat.reduceLT, Nat.reduceSub, ↓reduceIte, forall_const, implies_true, ne_eq, reduceCtorEq, Int.reduceToNat, forall_eq, Int.reduceEq, Int.reduceLT, Int.reduceLE, Int.reduceNeg, Int.reduceAdd, Int.reduceSub, hlt, hlen, e, gs, ls, List.set_set]
    rw [hs]
    exact ⟨by omega, by omega, Goes.le ⟨i + 1, ⟨hlt, (by first | omega | (simp only; omega))⟩, rfl⟩ (by simp +contextual -dsimp (maxSteps := 2000000) only [↓SD, SU, SB, Nat.reduceAdd, Nat.reduceBEq, Nat.reduceEqDiff, Nat.reduceLeDiff, Nat.reduceLT, Nat.reduceSub, ↓reduceIte, forall_const, implies_true, ne_eq, reduceCtorEq, Int.reduceToNat, forall_eq, Int.natCast_add, hK]) (by simp +contextual -dsimp (maxSteps := 2000000) only [↓SD, SU, SB, Nat.reduceAdd, Nat.reduceBEq, Nat.reduceEqDiff, Nat.reduceLeDiff, Nat.reduceLT, Nat.reduceSub, ↓reduceIte, forall_const, implies_true, ne_eq, reduceCtorEq, Int.reduceToNat, forall_eq])⟩
  · obtain rfl : i = l.length := by omega
    simp +contextual -dsimp (maxSteps := 2000000) only [↓SD, SU, SB, Nat.reduceAdd, Nat.reduceBEq, Nat.reduceEqDiff, Nat.reduceLeDiff, Nat.reduceLT, Nat.reduceSub, ↓reduceIte, forall_const, implies_true, ne_eq, reduceCtorEq, Int.reduceToNat, forall_eq, Int.reduceEq, Int.reduceLT, Int.reduceLE, Int.reduceNeg, Int.reduceAdd, Int.reduceSub, Nat.lt_irrefl, map_len]
    refine Goes.post [(kk, ⟨v, false, 53, 9, (mkCellTo k l l.length).map av⟩)] ?_
    simp +contextual -dsimp (maxSteps := 2000000) only [↓SD, SU, SB, Nat.reduceAdd, Nat.reduceBEq, Nat.reduceEqDiff, Nat.reduceLeDiff, Nat.reduceLT, Nat.reduceSub, ↓reduceIte, forall_const, implies_true, ne_eq, reduceCtorEq, Int.reduceToNat, forall_eq]
    exact ⟨rfl, _, ⟨mkCellTo_len (Nat.le_refl _), by simp [mkCellTo, mkCellL]⟩, rfl⟩
end Go.Proofs.Ytpnnhgminiihnaa
