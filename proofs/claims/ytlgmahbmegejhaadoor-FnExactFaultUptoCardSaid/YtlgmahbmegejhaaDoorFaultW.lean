/-
  Fault OF BOTH SIDES, and the law FnExactFault, by abstract texts. Conditions: block MaxLen holds an int.
-/
import Derived.Test.YtlgmahbmegejhaaDoorScal
import Derived.Test.YtlgmahbmegejhaaDoorWhere
import Derived.Test.YtlgmahbmegejhaaDoorLineOf
import Derived.Test.YtlgmahbmegejhaaDoorPosAt
import Derived.Test.YtlgmahbmegejhaaDoorMsg
import Derived.Test.YtlgmahbmegejhaaDoorCaret
import Derived.Test.YtlgmahbmegejhaaDoorNumI
import Derived.Test.YtlgmahbmegejhaaDoorIrFault
set_option linter.unusedVariables false
set_option linter.unusedSimpArgs false
set_option maxRecDepth 100000
namespace Go.Proofs.YtlgmahbmegejhaaDoor
open Go.RowKit Go.Proofs.YtlgmahbmegejhaaDoor.Av Go.Proofs.YtlgmahbmegejhaaDoor.Ml
open Go.Proofs.YtlgmahbmegejhaaDoor.Av.AVal (av)

theorem vr_int64 {S : Nat → Prop} {w : World} {μ : Mu} {n : Int} (h : -9223372036854775808 ≤ n ∧ n ≤ 9223372036854775807) : VR S w μ (.int .i64 n) (.int .i64 n) := .int _ _ h.1 h.2
theorem where_rng (s : ByteArray) (a : Int) (hs : s.size ≤ 1048576) : (0 ≤ whereL s a ∧ whereL s a ≤ 1048577) ∧ (0 ≤ whereC s a ∧ whereC s a ≤ 1048577) := by
  unfold whereL whereC
  split
  · have h1 := lineN_le (s.data.toList.take a.toNat)
    have h2 := colN_le s.data.toList a.toNat (by simp; omega)
    have h3 : (s.data.toList.take a.toNat).length ≤ s.size := by simp; omega
    omega
  · omega
theorem int_sum_mem : ∀ {L : List Int}, (∀ y ∈ L, 0 ≤ y) → ∀ {x : Int}, x ∈ L → x ≤ L.sum
  | y :: L, h, x, hx => by
    have h0 : ∀ y ∈ L, 0 ≤ y := fun z hz => h z (by simp [hz])
    have hs : 0 ≤ L.sum := by
      clear hx h x
      induction L with
      | nil => simp
      | cons z L ih =>
        rw [List.sum_cons]
        have := h0 z (by simp)
        have := ih (fun w hw => h0 w (by simp [hw]))
        omega
    rw [List.sum_cons]
    have hy := h y (by simp)
    rcases List.mem_cons.1 hx with rfl | hx
    · omega
    · have := int_sum_mem h0 hx; omega
theorem pcs_le (l : List UInt8) {p : List UInt8} (hp : p ∈ pcs [] l) : p.length ≤ l.length := by
  have h := pcs_total l []
  unfold offs at h
  rw [List.take_length] at h
  have := int_sum_mem (L := (pcs [] l).map fun p => (p.length : Int) + 1) (fun y hy => by obtain ⟨q, _, rfl⟩ := List.mem_map.1 hy; omega) (List.mem_map_of_mem hp)
  simp only [List.length_nil] at h
  omega
theorem lineOfB_le (s : ByteArray) (n : Int) : (lineOfB s n).size ≤ s.size := by
  unfold lineOfB
  split
  · rename_i h
    have hj : (n - 1).toNat < (linesB s).length := by omega
    rw [List.getElem?_eq_getElem hj, Option.getD_some]
    obtain ⟨l, hl, e⟩ := List.mem_map.1 (List.getElem_mem hj)
    rw [← e]
    have := pcs_le _ hl
    show (List.toArray _).size ≤ s.size
    simpa using this
  · exact Nat.zero_le _
theorem caretS_le (s : ByteArray) (c : Int) : (caretS s c).size ≤ 4001 := by
  unfold caretS
  split
  · show (List.toArray _).size ≤ _
    simp only [List.size_toArray, List.length_append, caretL_len, List.length_cons, List.length_nil]; omega
  · exact Nat.zero_le _
theorem ite_size {p : Prop} [Decidable p] {a b : ByteArray} (ha : a.size ≤ 64) (hb : b.size ≤ 64) : (if p then a else b).size ≤ 64 := by split <;> assumption
theorem messageS_le (c : Int) : (messageS c).size ≤ 64 := by
  unfold messageS
  repeat' first | refine ite_size ?_ ?_ | decide
theorem bsz (l : List Nat) : (bs l).size = l.length := by
  show (List.toArray _).size = _; simp
theorem implWhere_okF (s : ByteArray) (a : Int) (hs : s.size ≤ 1048576) : CallsF Tryd.prog 19 [.str s, .int .i64 a] (.tup [.int .i64 (whereL s a), .int .i64 (whereC s a)]) := by
  have r := where_rng s a hs
  exact callsF_sc (by kernel_rfl) rfl (fun S w => vr_tup2 (vr_int64 (by omega)) (vr_int64 (by omega))) fun w => impl_Where s a hs
theorem specWhere_okF (s : ByteArray) (a : Int) (hs : s.size ≤ 1048576) : CallsF Tryd.prog 20 [.str s, .int .i64 a] (.tup [.int .i64 (whereL s a), .int .i64 (whereC s a)]) := by
  have r := where_rng s a hs
  exact callsF_sc (by kernel_rfl) rfl (fun S w => vr_tup2 (vr_int64 (by omega)) (vr_int64 (by omega))) fun w => spec_Where s a hs
theorem implMessage_okF (c : Int) : CallsF Tryd.prog 26 [.int .i64 c] (.str (messageS c)) :=
  callsF_sc (by kernel_rfl) rfl (fun S w => .str _ (by have := messageS_le c; unfold maxLen; omega)) fun w => impl_Message c
theorem specMessage_okF (c : Int) : CallsF Tryd.prog 22 [.int .i64 c] (.str (messageS c)) :=
  callsF_sc (by kernel_rfl) rfl (fun S w => .str _ (by have := messageS_le c; unfold maxLen; omega)) fun w => spec_Message c
theorem implCaret_okF (s : ByteArray) (c : Int) (hs : s.size ≤ 1048576) : CallsF Tryd.prog 28 [.str s, .int .i64 c] (.str (caretS s c)) :=
  callsF_sc (by kernel_rfl) rfl (fun S w => .str _ (by have := caretS_le s c; unfold maxLen; omega)) fun w => impl_Caret s c hs
theorem specCaret_okF (s : ByteArray) (c : Int) (hs : s.size ≤ 1048576) : CallsF Tryd.prog 25 [.str s, .int .i64 c] (.str (caretS s c)) :=
  callsF_sc (by kernel_rfl) rfl (fun S w => .str _ (by have := caretS_le s c; unfold maxLen; omega)) fun w => spec_Caret s c hs
theorem specLineOf_okF (s : ByteArray) (n : Int) (hs : s.size ≤ 1048576) : CallsF Tryd.prog 23 [.str s, .int .i64 n] (.tup [.str (lineOfB s n), .bool (lineOk s n)]) :=
  callsF_sc (by kernel_rfl) rfl (fun S w => vr_tup2 (.str _ (by have := lineOfB_le s n; unfold maxLen; omega)) (.bool _)) fun w => spec_LineOf s n hs
theorem implLineOf_okH (s : ByteArray) (n : Int) (hs : s.size ≤ 1048576) (m : Int) (ty : Nat) : CallsH Tryd.prog 17 [.str s, .int .i64 n] [gint 0 ty m] (GPost (.tup [.str (lineOfB s n), .bool (lineOk s n)]) (gint 0 ty m)) :=
  callsH_sc (by kernel_rfl) rfl (fun S w => vr_tup2 (.str _ (by have := lineOfB_le s n; unfold maxLen; omega)) (.bool _)) fun w hm => impl_LineOf s n hs hm
/-- three lines of a fault -/
def faultS (s : ByteArray) (c a : Int) : ByteArray :=
  if messageS c = bs [] ∨ whereL s a = 0 then bs [] else
    numS (whereL s a) ++ bs [58] ++ numS (whereC s a) ++ bs [58, 32] ++ messageS c ++ bs [10] ++ lineOfB s (whereL s a) ++ bs [10] ++ caretS (lineOfB s (whereL s a)) (whereC s a) ++ bs [10]
theorem specFault_ok (s : ByteArray) (c a : Int) (hs : s.size ≤ 1048576) : CallsF Tryd.prog 7 [.str s, .int .i64 c, .int .i64 a] (.str (faultS s c a)) := by
  refine fun_spec_Fault rfl (by simp; exact ⟨AvPure.str _, AvPure.int _ _, AvPure.int _ _⟩) (AvPure.str _) ?_
  have r := where_rng s a hs
  have CW := specWhere_okF s a hs
  have CM := specMessage_okF c
  have C1 := specNumText_ok (whereL s a) (by omega)
  have C2 := specNumText_ok (whereC s a) (by omega)
  have CL := specLineOf_okF s (whereL s a) hs
  have CC := specCaret_okF (lineOfB s (whereL s a)) (whereC s a) (by have := lineOfB_le s (whereL s a); omega)
  have z1 := numS_le (whereL s a)
  have z2 := numS_le (whereC s a)
  have z3 := messageS_le c
  have z4 := lineOfB_le s (whereL s a)
  have z5 := caretS_le (lineOfB s (whereL s a)) (whereC s a)
  unfold faultS
  generalize whereL s a = L at *
  generalize whereC s a = K at *
  generalize messageS c = M at *
  generalize lineOfB s L = T at *
  generalize lineOk s L = ok at *
  generalize caretS T K = Q at *
  generalize numS L = N1 at *
  generalize numS K = N2 at *
  simp +contextual -dsimp (maxSteps := 2000000) only [↓SD, SU, SB, Nat.reduceAdd, Nat.reduceBEq, Nat.reduceEqDiff, Nat.reduceLeDiff, Nat.reduceLT, Nat.reduceSub, ↓reduceIte, zA, zI, zN, reduceCtorEq, Int.reduceToNat, zE, Int.reduceEq, Int.reduceLT, Int.reduceLE, Int.reduceNeg, Int.reduceAdd, Int.reduceSub, ir_spec_Fault, rs_spec_Fault]
  refine aCallK_of _ CM ?_
  simp +contextual -dsimp (maxSteps := 2000000) only [↓SD, SU, SB, Nat.reduceAdd, Nat.reduceBEq, Nat.reduceEqDiff, Nat.reduceLeDiff, Nat.reduceLT, Nat.reduceSub, ↓reduceIte, zA, zI, zN, reduceCtorEq, Int.reduceToNat, zE, Int.reduceEq, Int.reduceLT, Int.reduceLE, Int.reduceNeg, Int.reduceAdd, Int.reduceSub]
  refine aCallK_of _ CW ?_
  by_cases h1 : M = bs []
  · simp +contextual -dsimp (maxSteps := 2000000) only [↓SD, SU, SB, Nat.reduceAdd, Nat.reduceBEq, Nat.reduceEqDiff, Nat.reduceLeDiff, Nat.reduceLT, Nat.reduceSub, ↓reduceIte, zA, zI, zN, reduceCtorEq, Int.reduceToNat, zE, Int.reduceEq, Int.reduceLT, Int.reduceLE, Int.reduceNeg, Int.reduceAdd, Int.reduceSub, h1, true_or]
  by_cases h2 : L = 0
  · simp +contextual -dsimp (maxSteps := 2000000) only [↓SD, SU, SB, Nat.reduceAdd, Nat.reduceBEq, Nat.reduceEqDiff, Nat.reduceLeDiff, Nat.reduceLT, Nat.reduceSub, ↓reduceIte, zA, zI, zN, reduceCtorEq, Int.reduceToNat, zE, Int.reduceEq, Int.reduceLT, Int.reduceLE, Int.reduceNeg, Int.reduceAdd, Int.reduceSub, h1, h2, or_true]
  simp +contextual -dsimp (maxSteps := 2000000) only [↓SD, SU, SB, Nat.reduceAdd, Nat.reduceBEq, Nat.reduceEqDiff, Nat.reduceLeDiff, Nat.reduceLT, Nat.reduceSub, ↓reduceIte, zA, zI, zN, reduceCtorEq, Int.reduceToNat, zE, Int.reduceEq, Int.reduceLT, Int.reduceLE, Int.reduceNeg, Int.reduceAdd, Int.reduceSub, h1, h2, false_or, or_false]
  refine aCallK_of _ CL ?_
  simp +contextual -dsimp (maxSteps := 2000000) only [↓SD, SU, SB, Nat.reduceAdd, Nat.reduceBEq, Nat.reduceEqDiff, Nat.reduceLeDiff, Nat.reduceLT, Nat.reduceSub, ↓reduceIte, zA, zI, zN, reduceCtorEq, Int.reduceToNat, zE, Int.reduceEq, Int.reduceLT, Int.reduceLE, Int.reduceNeg, Int.reduceAdd, Int.reduceSub]
  refine aCallK_of _ C1 ?_
  simp +contextual -dsimp (maxSteps := 2000000) only [↓SD, SU, SB, Nat.reduceAdd, Nat.reduceBEq, Nat.reduceEqDiff, Nat.reduceLeDiff, Nat.reduceLT, Nat.reduceSub, ↓reduceIte, zA, zI, zN, reduceCtorEq, Int.reduceToNat, zE, Int.reduceEq, Int.reduceLT, Int.reduceLE, Int.reduceNeg, Int.reduceAdd, Int.reduceSub]
  refine ⟨by (simp only [ByteArray.size_append, bsz, List.length_cons, List.length_nil]; unfold maxLen; omega), ?_⟩
  refine aCallK_of _ C2 ?_
  simp +contextual -dsimp (maxSteps := 2000000) only [↓SD, SU, SB, Nat.reduceAdd, Nat.reduceBEq, Nat.reduceEqDiff, Nat.reduceLeDiff, Nat.reduceLT, Nat.reduceSub, ↓reduceIte, zA, zI, zN, reduceCtorEq, Int.reduceToNat, zE, Int.reduceEq, Int.reduceLT, Int.reduceLE, Int.reduceNeg, Int.reduceAdd, Int.reduceSub]
  repeat (refine ⟨by (simp only [ByteArray.size_append, bsz, List.length_cons, List.length_nil]; unfold maxLen; omega), ?_⟩)
  refine aCallK_of _ CC ?_
  simp +contextual -dsimp (maxSteps := 2000000) only [↓SD, SU, SB, Nat.reduceAdd, Nat.reduceBEq, Nat.reduceEqDiff, Nat.reduceLeDiff, Nat.reduceLT, Nat.reduceSub, ↓reduceIte, zA, zI, zN, reduceCtorEq, Int.reduceToNat, zE, Int.reduceEq, Int.reduceLT, Int.reduceLE, Int.reduceNeg, Int.reduceAdd, Int.reduceSub]
  exact ⟨by (simp only [ByteArray.size_append, bsz, List.length_cons, List.length_nil]; unfold maxLen; omega), by (simp only [ByteArray.size_append, bsz, List.length_cons, List.length_nil]; unfold maxLen; omega), by rw [if_neg (by simp [h1, h2])]⟩
theorem implFault_ok (s : ByteArray) (c a : Int) (hs : s.size ≤ 1048576) (m : Int) (ty : Nat) : CallsH Tryd.prog 8 [.str s, .int .i64 c, .int .i64 a] [gint 0 ty m] (GPost (.str (faultS s c a)) (gint 0 ty m)) := by
  refine funH_impl_Fault rfl ?_
  have r := where_rng s a hs
  have CW := implWhere_okF s a hs
  have CM := implMessage_okF c
  have C1 := implNumText_ok (whereL s a) (by omega)
  have C2 := implNumText_ok (whereC s a) (by omega)
  have CL := implLineOf_okH s (whereL s a) hs m ty
  have CC := implCaret_okF (lineOfB s (whereL s a)) (whereC s a) (by have := lineOfB_le s (whereL s a); omega)
  have z1 := numS_le (whereL s a)
  have z2 := numS_le (whereC s a)
  have z3 := messageS_le c
  have z4 := lineOfB_le s (whereL s a)
  have z5 := caretS_le (lineOfB s (whereL s a)) (whereC s a)
  unfold faultS
  generalize whereL s a = L at *
  generalize whereC s a = K at *
  generalize messageS c = M at *
  generalize lineOfB s L = T at *
  generalize lineOk s L = ok at *
  generalize caretS T K = Q at *
  generalize numS L = N1 at *
  generalize numS K = N2 at *
  obtain ⟨G, hG⟩ : ∃ G : Box, G = (gint 0 ty m).2 := ⟨_, rfl⟩
  have hG5 : gint 0 ty m = (5000, G) := by rw [hG]; rfl
  rw [hG5] at CL ⊢
  simp +contextual -dsimp (maxSteps := 2000000) only [↓SD, SU, SB, Nat.reduceAdd, Nat.reduceBEq, Nat.reduceEqDiff, Nat.reduceLeDiff, Nat.reduceLT, Nat.reduceSub, ↓reduceIte, zA, zI, zN, reduceCtorEq, Int.reduceToNat, zE, Int.reduceEq, Int.reduceLT, Int.reduceLE, Int.reduceNeg, Int.reduceAdd, Int.reduceSub, ir_impl_Fault, rs_impl_Fault]
  refine aCallK_of _ CW ?_
  simp +contextual -dsimp (maxSteps := 2000000) only [↓SD, SU, SB, Nat.reduceAdd, Nat.reduceBEq, Nat.reduceEqDiff, Nat.reduceLeDiff, Nat.reduceLT, Nat.reduceSub, ↓reduceIte, zA, zI, zN, reduceCtorEq, Int.reduceToNat, zE, Int.reduceEq, Int.reduceLT, Int.reduceLE, Int.reduceNeg, Int.reduceAdd, Int.reduceSub]
  refine aCallK_of _ CM ?_
  by_cases h1 : M = bs []
  · simp +contextual -dsimp (maxSteps := 2000000) only [↓SD, SU, SB, Nat.reduceAdd, Nat.reduceBEq, Nat.reduceEqDiff, Nat.reduceLeDiff, Nat.reduceLT, Nat.reduceSub, ↓reduceIte, zA, zI, zN, reduceCtorEq, Int.reduceToNat, zE, Int.reduceEq, Int.reduceLT, Int.reduceLE, Int.reduceNeg, Int.reduceAdd, Int.reduceSub, h1, true_or]
    refine Goes.post [(5000, G)] ?_
    simp +contextual -dsimp (maxSteps := 2000000) only [↓SD, SU, SB, Nat.reduceAdd, Nat.reduceBEq, Nat.reduceEqDiff, Nat.reduceLeDiff, Nat.reduceLT, Nat.reduceSub, ↓reduceIte, zA, zI, zN, reduceCtorEq, Int.reduceToNat, zE]
    exact ⟨rfl, rfl⟩
  by_cases h2 : L = 0
  · simp +contextual -dsimp (maxSteps := 2000000) only [↓SD, SU, SB, Nat.reduceAdd, Nat.reduceBEq, Nat.reduceEqDiff, Nat.reduceLeDiff, Nat.reduceLT, Nat.reduceSub, ↓reduceIte, zA, zI, zN, reduceCtorEq, Int.reduceToNat, zE, Int.reduceEq, Int.reduceLT, Int.reduceLE, Int.reduceNeg, Int.reduceAdd, Int.reduceSub, h1, h2, or_true]
    refine Goes.post [(5000, G)] ?_
    simp +contextual -dsimp (maxSteps := 2000000) only [↓SD, SU, SB, Nat.reduceAdd, Nat.reduceBEq, Nat.reduceEqDiff, Nat.reduceLeDiff, Nat.reduceLT, Nat.reduceSub, ↓reduceIte, zA, zI, zN, reduceCtorEq, Int.reduceToNat, zE]
    exact ⟨rfl, rfl⟩
  simp +contextual -dsimp (maxSteps := 2000000) only [↓SD, SU, SB, Nat.reduceAdd, Nat.reduceBEq, Nat.reduceEqDiff, Nat.reduceLeDiff, Nat.reduceLT, Nat.reduceSub, ↓reduceIte, zA, zI, zN, reduceCtorEq, Int.reduceToNat, zE, Int.reduceEq, Int.reduceLT, Int.reduceLE, Int.reduceNeg, Int.reduceAdd, Int.reduceSub, h1, h2, false_or, or_false]
  refine aCallH_of [5000] CL (by simp +contextual -dsimp only [↓SD, SU, SB, Nat.reduceAdd, Nat.reduceBEq, Nat.reduceEqDiff, Nat.reduceLeDiff, Nat.reduceLT, Nat.reduceSub, ↓reduceIte, zA, zI, zN, reduceCtorEq, Int.reduceToNat, zE]) ?_
  rintro r' hp' ⟨rfl, rfl⟩
  simp +contextual -dsimp (maxSteps := 2000000) only [↓SD, SU, SB, Nat.reduceAdd, Nat.reduceBEq, Nat.reduceEqDiff, Nat.reduceLeDiff, Nat.reduceLT, Nat.reduceSub, ↓reduceIte, zA, zI, zN, reduceCtorEq, Int.reduceToNat, zE, Int.reduceEq, Int.reduceLT, Int.reduceLE, Int.reduceNeg, Int.reduceAdd, Int.reduceSub]
  refine aCallK_of _ C1 ?_
  simp +contextual -dsimp (maxSteps := 2000000) only [↓SD, SU, SB, Nat.reduceAdd, Nat.reduceBEq, Nat.reduceEqDiff, Nat.reduceLeDiff, Nat.reduceLT, Nat.reduceSub, ↓reduceIte, zA, zI, zN, reduceCtorEq, Int.reduceToNat, zE, Int.reduceEq, Int.reduceLT, Int.reduceLE, Int.reduceNeg, Int.reduceAdd, Int.reduceSub]
  refine ⟨by (simp only [ByteArray.size_append, bsz, List.length_cons, List.length_nil]; unfold maxLen; omega), ?_⟩
  refine aCallK_of _ C2 ?_
  simp +contextual -dsimp (maxSteps := 2000000) only [↓SD, SU, SB, Nat.reduceAdd, Nat.reduceBEq, Nat.reduceEqDiff, Nat.reduceLeDiff, Nat.reduceLT, Nat.reduceSub, ↓reduceIte, zA, zI, zN, reduceCtorEq, Int.reduceToNat, zE, Int.reduceEq, Int.reduceLT, Int.reduceLE, Int.reduceNeg, Int.reduceAdd, Int.reduceSub]
  repeat (refine ⟨by (simp only [ByteArray.size_append, bsz, List.length_cons, List.length_nil]; unfold maxLen; omega), ?_⟩)
  refine aCallK_of _ CM ?_
  simp +contextual -dsimp (maxSteps := 2000000) only [↓SD, SU, SB, Nat.reduceAdd, Nat.reduceBEq, Nat.reduceEqDiff, Nat.reduceLeDiff, Nat.reduceLT, Nat.reduceSub, ↓reduceIte, zA, zI, zN, reduceCtorEq, Int.reduceToNat, zE, Int.reduceEq, Int.reduceLT, Int.reduceLE, Int.reduceNeg, Int.reduceAdd, Int.reduceSub]
  repeat (refine ⟨by (simp only [ByteArray.size_append, bsz, List.length_cons, List.length_nil]; unfold maxLen; omega), ?_⟩)
  refine aCallK_of _ CC ?_
  simp +contextual -dsimp (maxSteps := 2000000) only [↓SD, SU, SB, Nat.reduceAdd, Nat.reduceBEq, Nat.reduceEqDiff, Nat.reduceLeDiff, Nat.reduceLT, Nat.reduceSub, ↓reduceIte, zA, zI, zN, reduceCtorEq, Int.reduceToNat, zE, Int.reduceEq, Int.reduceLT, Int.reduceLE, Int.reduceNeg, Int.reduceAdd, Int.reduceSub]
  refine ⟨by (simp only [ByteArray.size_append, bsz, List.length_cons, List.length_nil]; unfold maxLen; omega), by (simp only [ByteArray.size_append, bsz, List.length_cons, List.length_nil]; unfold maxLen; omega), ?_⟩
  refine Goes.post [(5000, G)] ?_
  simp +contextual -dsimp (maxSteps := 2000000) only [↓SD, SU, SB, Nat.reduceAdd, Nat.reduceBEq, Nat.reduceEqDiff, Nat.reduceLeDiff, Nat.reduceLT, Nat.reduceSub, ↓reduceIte, zA, zI, zN, reduceCtorEq, Int.reduceToNat, zE]
  exact ⟨by rw [if_neg (by simp [h1, h2])], rfl⟩
theorem lawFault_ok (s : ByteArray) (c a : Int) (m : Int) (ty : Nat) (hs : s.size ≤ 1048576) : CallsH Tryd.prog 3 [.str s, .int .i64 c, .int .i64 a] [gint 0 ty m] (GPost (.bool true) (gint 0 ty m)) := by
  have CS := specFault_ok s c a hs
  have CI := implFault_ok s c a hs m ty
  obtain ⟨G, hG⟩ : ∃ G : Box, G = (gint 0 ty m).2 := ⟨_, rfl⟩
  have hG5 : gint 0 ty m = (5000, G) := by rw [hG]; rfl
  rw [hG5] at CI ⊢
  have hsz : ¬ (1048576 : Int) < s.size := by omega
  refine funH_laws_FnExactFault rfl ?_
  simp +contextual -dsimp (maxSteps := 2000000) only [↓SD, SU, SB, Nat.reduceAdd, Nat.reduceBEq, Nat.reduceEqDiff, Nat.reduceLeDiff, Nat.reduceLT, Nat.reduceSub, ↓reduceIte, zA, zI, zN, reduceCtorEq, Int.reduceToNat, zE, Int.reduceEq, Int.reduceLT, Int.reduceLE, Int.reduceNeg, Int.reduceAdd, Int.reduceSub, ir_laws_FnExactFault, rs_laws_FnExactFault, hsz]
  refine aCallK_of _ CS ?_
  simp +contextual -dsimp (maxSteps := 2000000) only [↓SD, SU, SB, Nat.reduceAdd, Nat.reduceBEq, Nat.reduceEqDiff, Nat.reduceLeDiff, Nat.reduceLT, Nat.reduceSub, ↓reduceIte, zA, zI, zN, reduceCtorEq, Int.reduceToNat, zE, Int.reduceEq, Int.reduceLT, Int.reduceLE, Int.reduceNeg, Int.reduceAdd, Int.reduceSub]
  refine aCallH_of [5000] CI (by simp +contextual -dsimp only [↓SD, SU, SB, Nat.reduceAdd, Nat.reduceBEq, Nat.reduceEqDiff, Nat.reduceLeDiff, Nat.reduceLT, Nat.reduceSub, ↓reduceIte, zA, zI, zN, reduceCtorEq, Int.reduceToNat, zE]) ?_
  rintro r' hp' ⟨rfl, rfl⟩
  simp +contextual -dsimp (maxSteps := 2000000) only [↓SD, SU, SB, Nat.reduceAdd, Nat.reduceBEq, Nat.reduceEqDiff, Nat.reduceLeDiff, Nat.reduceLT, Nat.reduceSub, ↓reduceIte, zA, zI, zN, reduceCtorEq, Int.reduceToNat, zE, Int.reduceEq, Int.reduceLT, Int.reduceLE, Int.reduceNeg, Int.reduceAdd, Int.reduceSub]
  refine Goes.post [(5000, G)] ?_
  simp +contextual -dsimp (maxSteps := 2000000) only [↓SD, SU, SB, Nat.reduceAdd, Nat.reduceBEq, Nat.reduceEqDiff, Nat.reduceLeDiff, Nat.reduceLT, Nat.reduceSub, ↓reduceIte, zA, zI, zN, reduceCtorEq, Int.reduceToNat, zE]
  exact ⟨rfl, rfl⟩
end Go.Proofs.YtlgmahbmegejhaaDoor
