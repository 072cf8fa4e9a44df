/-
  THE LAW FnWhere, by its abstract text: it returns true. Conditions: the code's bulk is at most 1048576; block MaxLen holds an int.
-/
import Derived.Test.YtohalepkikjinaaDoorWLines
set_option linter.unusedVariables false
set_option linter.unusedSimpArgs false
set_option maxRecDepth 100000
namespace Go.Proofs.YtohalepkikjinaaDoor
open Go.RowKit Go.Proofs.YtohalepkikjinaaDoor.Av Go.Proofs.YtohalepkikjinaaDoor.Ml
open Go.Proofs.YtohalepkikjinaaDoor.Av.AVal (av)

theorem cell_lt {w : World} {g : Nat} {v : Value} (h : w.cell? ⟨g, 0, none⟩ = some v) : g < w.heap.size := by
  unfold World.cell? at h
  cases hb : w.heap[g]? with
  | none => simp [hb] at h
  | some o => exact (Array.getElem?_eq_some_iff.1 hb).1
theorem textAt_rng (s : ByteArray) (L C : Int) (hs : s.size ≤ 1048576) : 0 ≤ textAtN s L C ∧ textAtN s L C ≤ 1048577 := by
  have key : ∀ x, textAt s L C = some x → 0 ≤ x ∧ x ≤ 1048577 := fun x hx => by
    unfold textAt at hx
    split at hx
    · rename_i hC
      unfold atO at hx
      split at hx
      · rename_i hL
        unfold pick at hx
        split at hx
        · rename_i p hp
          obtain ⟨hj, rfl⟩ := List.getElem?_eq_some_iff.1 hp
          split at hx
          · rename_i hc
            cases hx
            have h1 := offs_nonneg (pcs [] s.data.toList) (L - 1).toNat
            have h2 := offs_succ (pcs [] s.data.toList) (L - 1).toNat hj
            have h3 := offs_mono (pcs [] s.data.toList) ((L - 1).toNat + 1)
            have h4 := pcs_total s.data.toList []
            have h5 : s.data.toList.length = s.size := by simp
            simp only [List.length_nil] at h4
            omega
          · cases hx
        · cases hx
      · cases hx
    · cases hx
  unfold textAtN
  cases h : textAt s L C with
  | none => simp
  | some x => have := key x h; simpa using this
theorem implAt_okH (s : ByteArray) (L C : Int) (hs : s.size ≤ 1048576) (m : Int) (ty : Nat) : CallsH Tryd.prog 12 [.str s, .int .i64 L, .int .i64 C] [gint 0 ty m] (GPost (.tup [.int .i64 (textAtN s L C), .bool (textAtB s L C)]) (gint 0 ty m)) := by
  have r := textAt_rng s L C hs
  exact callsH_sc (by kernel_rfl) rfl (fun S w => vr_tup2 (vr_int64 (by omega)) (.bool _)) fun w hm => impl_At s L C hs hm (cell_lt hm)
theorem lawWhereD_ok (c : List UInt8) (m : Int) (ty : Nat) (hk : Bulk.bulk c ≤ 1048576) : CallsH Tryd.prog 4 [.sl (c.map av)] [gint 0 ty m] (GPost (.bool true) (gint 0 ty m)) := by
  have hc := bulk_length c
  have hg : ¬ (1048576 : Int) < c.length := by omega
  refine funH_laws_FnWhere rfl ?_
  have CL := fun (s : ByteArray) (n : Int) (hs : s.size ≤ 1048576) => implLineOf_okH s n hs m ty
  have CA := fun (s : ByteArray) (L C : Int) (hs : s.size ≤ 1048576) => implAt_okH s L C hs m ty
  obtain ⟨G, hG⟩ : ∃ G : Box, G = (gint 0 ty m).2 := ⟨_, rfl⟩
  have hG5 : gint 0 ty m = (5000, G) := by rw [hG]; rfl
  rw [hG5] at CL CA ⊢
  simp +contextual -dsimp (maxSteps := 2000000) only [↓SD, SU, SB, Nat.reduceAdd, Nat.reduceBEq, Nat.reduceEqDiff, Nat.reduceLeDiff, Nat.reduceLT, Nat.reduceSub, ↓reduceIte, zA, zI, zN, reduceCtorEq, Int.reduceToNat, zE, Int.reduceEq, Int.reduceLT, Int.reduceLE, Int.reduceNeg, Int.reduceAdd, Int.reduceSub, ir_laws_FnWhere, rs_laws_FnWhere, map_len, hg]
  refine aCallH_of [] (DrawWhere_ok c (by omega)) (by simp +contextual -dsimp only [↓SD, SU, SB, Nat.reduceAdd, Nat.reduceBEq, Nat.reduceEqDiff, Nat.reduceLeDiff, Nat.reduceLT, Nat.reduceSub, ↓reduceIte, zA, zI, zN, reduceCtorEq, Int.reduceToNat, zE]) ?_
  rintro r hp' ⟨s, a, rfl, hs, ha, rfl⟩
  simp +contextual -dsimp (maxSteps := 2000000) only [↓SD, SU, SB, Nat.reduceAdd, Nat.reduceBEq, Nat.reduceEqDiff, Nat.reduceLeDiff, Nat.reduceLT, Nat.reduceSub, ↓reduceIte, zA, zI, zN, reduceCtorEq, Int.reduceToNat, zE, Int.reduceEq, Int.reduceLT, Int.reduceLE, Int.reduceNeg, Int.reduceAdd, Int.reduceSub]
  refine aCallK_of _ (implWhere_okF s a (by omega)) ?_
  simp +contextual -dsimp (maxSteps := 2000000) only [↓SD, SU, SB, Nat.reduceAdd, Nat.reduceBEq, Nat.reduceEqDiff, Nat.reduceLeDiff, Nat.reduceLT, Nat.reduceSub, ↓reduceIte, zA, zI, zN, reduceCtorEq, Int.reduceToNat, zE, Int.reduceEq, Int.reduceLT, Int.reduceLE, Int.reduceNeg, Int.reduceAdd, Int.reduceSub]
  refine aCallK_of _ (specWhere_okF s a (by omega)) ?_
  simp +contextual -dsimp (maxSteps := 2000000) only [↓SD, SU, SB, Nat.reduceAdd, Nat.reduceBEq, Nat.reduceEqDiff, Nat.reduceLeDiff, Nat.reduceLT, Nat.reduceSub, ↓reduceIte, zA, zI, zN, reduceCtorEq, Int.reduceToNat, zE, Int.reduceEq, Int.reduceLT, Int.reduceLE, Int.reduceNeg, Int.reduceAdd, Int.reduceSub]
  by_cases hin : 0 ≤ a ∧ a ≤ s.size
  case neg =>
    have w1 : whereL s a = 0 := if_neg hin
    have w2 : whereC s a = 0 := if_neg hin
    simp +contextual -dsimp (maxSteps := 2000000) only [↓SD, SU, SB, Nat.reduceAdd, Nat.reduceBEq, Nat.reduceEqDiff, Nat.reduceLeDiff, Nat.reduceLT, Nat.reduceSub, ↓reduceIte, zA, zI, zN, reduceCtorEq, Int.reduceToNat, zE, Int.reduceEq, Int.reduceLT, Int.reduceLE, Int.reduceNeg, Int.reduceAdd, Int.reduceSub, w1, w2]
    refine Goes.post [(5000, G)] ?_
    simp +contextual -dsimp (maxSteps := 2000000) only [↓SD, SU, SB, Nat.reduceAdd, Nat.reduceBEq, Nat.reduceEqDiff, Nat.reduceLeDiff, Nat.reduceLT, Nat.reduceSub, ↓reduceIte, zA, zI, zN, reduceCtorEq, Int.reduceToNat, zE]
    exact ⟨rfl, rfl⟩
  obtain ⟨b1, b2, b3, b4, b5, b6⟩ := where_back s a hin.1 hin.2
  have r := where_rng s a (by omega)
  have CA1 := CA s (whereL s a) (whereC s a) (by omega)
  have CL1 := CL s (whereL s a) (by omega)
  rw [b1, b2] at CA1
  rw [b3] at CL1
  have hz := lineOfB_le s (whereL s a)
  generalize whereL s a = L at *
  generalize whereC s a = C at *
  generalize lineOfB s L = T at *
  have hLn := linesI_pcs s
  have b5' : L ≤ linesI s := b5
  have b4' : C ≤ (T.size : Int) + 1 := b4
  simp +contextual -dsimp (maxSteps := 2000000) only [↓SD, SU, SB, Nat.reduceAdd, Nat.reduceBEq, Nat.reduceEqDiff, Nat.reduceLeDiff, Nat.reduceLT, Nat.reduceSub, ↓reduceIte, zA, zI, zN, reduceCtorEq, Int.reduceToNat, zE, Int.reduceEq, Int.reduceLT, Int.reduceLE, Int.reduceNeg, Int.reduceAdd, Int.reduceSub, b6]
  refine aCallH_of [5000] CA1 (by simp +contextual -dsimp only [↓SD, SU, SB, Nat.reduceAdd, Nat.reduceBEq, Nat.reduceEqDiff, Nat.reduceLeDiff, Nat.reduceLT, Nat.reduceSub, ↓reduceIte, zA, zI, zN, reduceCtorEq, Int.reduceToNat, zE]) ?_
  rintro r' hp' ⟨rfl, rfl⟩
  simp +contextual -dsimp (maxSteps := 2000000) only [↓SD, SU, SB, Nat.reduceAdd, Nat.reduceBEq, Nat.reduceEqDiff, Nat.reduceLeDiff, Nat.reduceLT, Nat.reduceSub, ↓reduceIte, zA, zI, zN, reduceCtorEq, Int.reduceToNat, zE, Int.reduceEq, Int.reduceLT, Int.reduceLE, Int.reduceNeg, Int.reduceAdd, Int.reduceSub]
  refine aCallH_of [5000] CL1 (by simp +contextual -dsimp only [↓SD, SU, SB, Nat.reduceAdd, Nat.reduceBEq, Nat.reduceEqDiff, Nat.reduceLeDiff, Nat.reduceLT, Nat.reduceSub, ↓reduceIte, zA, zI, zN, reduceCtorEq, Int.reduceToNat, zE]) ?_
  rintro r' hp' ⟨rfl, rfl⟩
  simp +contextual -dsimp (maxSteps := 2000000) only [↓SD, SU, SB, Nat.reduceAdd, Nat.reduceBEq, Nat.reduceEqDiff, Nat.reduceLeDiff, Nat.reduceLT, Nat.reduceSub, ↓reduceIte, zA, zI, zN, reduceCtorEq, Int.reduceToNat, zE, Int.reduceEq, Int.reduceLT, Int.reduceLE, Int.reduceNeg, Int.reduceAdd, Int.reduceSub, b4']
  refine ⟨by omega, ?_⟩
  refine aCallK_of _ (implLines_okF s (by omega)) ?_
  simp +contextual -dsimp (maxSteps := 2000000) only [↓SD, SU, SB, Nat.reduceAdd, Nat.reduceBEq, Nat.reduceEqDiff, Nat.reduceLeDiff, Nat.reduceLT, Nat.reduceSub, ↓reduceIte, zA, zI, zN, reduceCtorEq, Int.reduceToNat, zE, Int.reduceEq, Int.reduceLT, Int.reduceLE, Int.reduceNeg, Int.reduceAdd, Int.reduceSub, b5']
  refine Goes.post [(5000, G)] ?_
  simp +contextual -dsimp (maxSteps := 2000000) only [↓SD, SU, SB, Nat.reduceAdd, Nat.reduceBEq, Nat.reduceEqDiff, Nat.reduceLeDiff, Nat.reduceLT, Nat.reduceSub, ↓reduceIte, zA, zI, zN, reduceCtorEq, Int.reduceToNat, zE]
  exact ⟨rfl, rfl⟩
end Go.Proofs.YtohalepkikjinaaDoor
