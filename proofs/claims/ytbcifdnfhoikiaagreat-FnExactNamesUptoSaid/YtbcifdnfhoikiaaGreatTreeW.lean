/-
  inOrder OF THE PROGRAM, by abstract texts: a closure that counts. Conditions: none.
-/
import Derived.Test.YtbcifdnfhoikiaaGreatIrTree
import Derived.Test.YtbcifdnfhoikiaaGreatPackQ
import Derived.Test.YtbcifdnfhoikiaaGreatPackA
set_option linter.unusedVariables false
set_option linter.unusedSimpArgs false
set_option maxRecDepth 100000
namespace Go.Proofs.YtbcifdnfhoikiaaGreat
open Go.RowKit Go.Proofs.YtbcifdnfhoikiaaGreat.Av Go.Proofs.YtbcifdnfhoikiaaGreat.Ml
open Go.Proofs.YtbcifdnfhoikiaaGreat.Av.AVal (av)

/-- the closure's rows -/
def ordHp (n : Nat) (g : FuncId) (caps : List AV) (v5 v6 : Nat) (nx : Nat) : Hp :=
  [(5, ⟨v5, false, 3, 1, [.int .i64 nx]⟩), (6, ⟨v6, false, 47, 1, [.fn 166 [.ptr 5 v5 0 0, .obj [.int .i64 n], .obj [.fn g caps], .ptr 6 v6 0 0]]⟩)]
theorem ordHp_as (n : Nat) (g : FuncId) (caps : List AV) (v5 v6 : Nat) (nx : Nat) : ordHp n g caps v5 v6 nx = [(5, ⟨v5, false, 3, 1, [.int .i64 nx]⟩), (6, ⟨v6, false, 47, 1, [.fn 166 [.ptr 5 v5 0 0, .obj [.int .i64 n], .obj [.fn g caps], .ptr 6 v6 0 0]]⟩)] := eqq rfl
def OrdPost (n : Nat) (g : FuncId) (caps : List AV) (v5 v6 : Nat) (o : Option Nat) (r : AV) (hp' : Hp) : Prop :=
  ∃ nx', r = .bool o.isSome ∧ hp' = ordHp n g caps v5 v6 nx' ∧ (∀ m, o = some m → nx' = m)
theorem OrdPost.of {n : Nat} {g : FuncId} {caps : List AV} {v5 v6 nx : Nat} {o : Option Nat} {b : Bool} (h : o.isSome = b) (hm : ∀ m, o = some m → nx = m) : OrdPost n g caps v5 v6 o (.bool b) (ordHp n g caps v5 v6 nx) := ⟨nx, by rw [h], rfl, hm⟩
theorem walk_ok (K : Nat → List Int) (n : Nat) (hn : n ≤ 1048576) (g : FuncId) (caps : List AV) (hc : ∀ hp, caps.map (AV.pur1 hp) = caps) (hK : ∀ i, i < n → (K i).length ≤ 1048576 ∧ CallsF Tryz.prog g (.int .i64 i :: caps) (.sl ((K i).map av))) (v5 v6 : Nat) :
    ∀ (f : Nat) (i : Int) (nx : Nat), nx ≤ n → n - nx < f → CallsH Tryz.prog 166 [.int .i64 i, .ptr 5 v5 0 0, .obj [.int .i64 n], .obj [.fn g caps], .ptr 6 v6 0 0] (ordHp n g caps v5 v6 nx) (OrdPost n g caps v5 v6 (walkF K n f i nx)) := by
  intro f
  induction f with
  | zero => intro i nx _ h; omega
  | succ f ih =>
    intro i nx hnx hf
    refine funH_impl_inOrder_1 rfl ?_
    simp +contextual -dsimp only [↓SD, SU, SB, Nat.reduceAdd, Nat.reduceBEq, Nat.reduceEqDiff, Nat.reduceLeDiff, Nat.reduceLT, Nat.reduceSub, ↓reduceIte, zA, zI, zN, reduceCtorEq, Int.reduceToNat, zE, ir_impl_inOrder_1, rs_impl_inOrder_1, ordHp_as, hc]
    refine ⟨fun hi => ⟨fun hle => ?_, fun hle => ⟨by omega, ?_⟩⟩, fun hi => ?_⟩
    · refine Goes.post (ordHp n g caps v5 v6 nx) ?_
      simp +contextual -dsimp only [↓SD, SU, SB, Nat.reduceAdd, Nat.reduceBEq, Nat.reduceEqDiff, Nat.reduceLeDiff, Nat.reduceLT, Nat.reduceSub, ↓reduceIte, zA, zI, zN, reduceCtorEq, Int.reduceToNat, zE, ordHp_as]
      refine OrdPost.of ?_ ?_ <;> simp [walkF, endF, hi, Nat.not_lt.2 hle]
    · obtain ⟨hk1, hk2⟩ := hK nx (by omega)
      refine aCallK_of _ hk2 ?_
      simp +contextual -dsimp only [↓SD, SU, SB, Nat.reduceAdd, Nat.reduceBEq, Nat.reduceEqDiff, Nat.reduceLeDiff, Nat.reduceLT, Nat.reduceSub, ↓reduceIte, zA, zI, zN, reduceCtorEq, Int.reduceToNat, zE, map_len]
      refine aLoop_of (X := Nat × Nat) (fun x => ⟨[(4, .ptr 6 v6 0 0), (21, .sl ((K nx).map av)), (22, .int .i64 (K nx).length), (23, .int .i64 x.1)], ordHp n g caps v5 v6 x.2⟩) (fun x => x.1 ≤ (K nx).length ∧ nx < x.2 ∧ x.2 ≤ n ∧ kidsF (endF K n f) (K nx) (nx + 1) = kidsF (endF K n f) ((K nx).drop x.1) x.2) (fun x => (K nx).length - x.1) (0, nx + 1) ⟨Nat.zero_le _, by simp, by simp only; omega, rfl⟩ (by simp +contextual -dsimp only [↓SD, SU, SB, Nat.reduceAdd, Nat.reduceBEq, Nat.reduceEqDiff, Nat.reduceLeDiff, Nat.reduceLT, Nat.reduceSub, ↓reduceIte, zA, zI, zN, reduceCtorEq, Int.reduceToNat, zE]) (by simp +contextual -dsimp only [↓SD, SU, SB, Nat.reduceAdd, Nat.reduceBEq, Nat.reduceEqDiff, Nat.reduceLeDiff, Nat.reduceLT, Nat.reduceSub, ↓reduceIte, zA, zI, zN, reduceCtorEq, Int.reduceToNat, zE, ordHp_as, Int.natCast_add]) ?_
      rintro ⟨j, m⟩ ⟨hj, hm1, hm2, he⟩
      simp only at hj hm1 hm2 he
      have hw : walkF K n (f + 1) i nx = kidsF (endF K n f) ((K nx).drop j) m := by
        rw [walkF, if_pos hi, endF, if_pos (by omega), he]
      by_cases hlt : j < (K nx).length
      · have e := getD_map av (K nx) j .top hlt
        rw [List.drop_eq_getElem_cons hlt, kidsF] at he
        have hw' : walkF K n (f + 1) i nx = match walkF K n f (K nx)[j] m with | some m' => kidsF (endF K n f) ((K nx).drop (j + 1)) m' | none => none := by
          rw [hw, List.drop_eq_getElem_cons hlt, kidsF, walkF]
          split <;> rfl
        have C := ih (K nx)[j] m hm2 (by omega)
        simp +contextual -dsimp only [↓SD, SU, SB, Nat.reduceAdd, Nat.reduceBEq, Nat.reduceEqDiff, Nat.reduceLeDiff, Nat.reduceLT, Nat.reduceSub, ↓reduceIte, zA, zI, zN, reduceCtorEq, Int.reduceToNat, zE, map_len, e, av_int, hlt, ordHp_as, hc]
        refine aCallH_of [5, 6] C (by simp +contextual -dsimp only [↓SD, SU, SB, Nat.reduceAdd, Nat.reduceBEq, Nat.reduceEqDiff, Nat.reduceLeDiff, Nat.reduceLT, Nat.reduceSub, ↓reduceIte, zA, zI, zN, reduceCtorEq, Int.reduceToNat, zE, ordHp_as]) ?_
        rintro r hp' ⟨nx', rfl, rfl, hnx'⟩
        cases ho : walkF K n f (K nx)[j] m with
        | none =>
          rw [ho] at hw'
          simp +contextual -dsimp only [↓SD, SU, SB, Nat.reduceAdd, Nat.reduceBEq, Nat.reduceEqDiff, Nat.reduceLeDiff, Nat.reduceLT, Nat.reduceSub, ↓reduceIte, zA, zI, zN, reduceCtorEq, Int.reduceToNat, zE, ho, Option.isSome_none]
          refine Goes.post (ordHp n g caps v5 v6 nx') ?_
          simp +contextual -dsimp only [↓SD, SU, SB, Nat.reduceAdd, Nat.reduceBEq, Nat.reduceEqDiff, Nat.reduceLeDiff, Nat.reduceLT, Nat.reduceSub, ↓reduceIte, zA, zI, zN, reduceCtorEq, Int.reduceToNat, zE, ordHp_as]
          rw [hw']
          exact OrdPost.of rfl (fun m h => by cases h)
        | some m' =>
          rw [ho] at hw'
          obtain rfl := hnx' m' ho
          have hm' : m < nx' ∧ nx' ≤ n := by
            unfold walkF at ho
            split at ho
            · exact end_le K n f m nx' ho
            · cases ho
          simp +contextual -dsimp only [↓SD, SU, SB, Nat.reduceAdd, Nat.reduceBEq, Nat.reduceEqDiff, Nat.reduceLeDiff, Nat.reduceLT, Nat.reduceSub, ↓reduceIte, zA, zI, zN, reduceCtorEq, Int.reduceToNat, zE, ho, Option.isSome_some]
          refine ⟨by omega, Goes.le ⟨(j + 1, nx'), ⟨⟨hlt, by simp only; omega, hm'.2, ?_⟩, (by first | omega | (simp only; omega))⟩, rfl⟩ (by simp +contextual -dsimp only [↓SD, SU, SB, Nat.reduceAdd, Nat.reduceBEq, Nat.reduceEqDiff, Nat.reduceLeDiff, Nat.reduceLT, Nat.reduceSub, ↓reduceIte, zA, zI, zN, reduceCtorEq, Int.reduceToNat, zE, Int.natCast_add]) (by simp +contextual -dsimp only [↓SD, SU, SB, Nat.reduceAdd, Nat.reduceBEq, Nat.reduceEqDiff, Nat.reduceLeDiff, Nat.reduceLT, Nat.reduceSub, ↓reduceIte, zA, zI, zN, reduceCtorEq, Int.reduceToNat, zE, ordHp_as])⟩
          rw [he]
          simp only at hw' ⊢
          rw [walkF, if_pos hi, endF, if_pos (by omega), he] at hw'
          exact hw'
      · obtain rfl : j = (K nx).length := by omega
        rw [List.drop_length, kidsF] at hw
        simp +contextual -dsimp only [↓SD, SU, SB, Nat.reduceAdd, Nat.reduceBEq, Nat.reduceEqDiff, Nat.reduceLeDiff, Nat.reduceLT, Nat.reduceSub, ↓reduceIte, zA, zI, zN, reduceCtorEq, Int.reduceToNat, zE, map_len, Nat.lt_irrefl]
        refine Goes.post (ordHp n g caps v5 v6 m) ?_
        simp +contextual -dsimp only [↓SD, SU, SB, Nat.reduceAdd, Nat.reduceBEq, Nat.reduceEqDiff, Nat.reduceLeDiff, Nat.reduceLT, Nat.reduceSub, ↓reduceIte, zA, zI, zN, reduceCtorEq, Int.reduceToNat, zE, ordHp_as]
        rw [hw]
        exact OrdPost.of rfl (fun m h => by cases h; rfl)
    · refine Goes.post (ordHp n g caps v5 v6 nx) ?_
      simp +contextual -dsimp only [↓SD, SU, SB, Nat.reduceAdd, Nat.reduceBEq, Nat.reduceEqDiff, Nat.reduceLeDiff, Nat.reduceLT, Nat.reduceSub, ↓reduceIte, zA, zI, zN, reduceCtorEq, Int.reduceToNat, zE, ordHp_as]
      refine OrdPost.of ?_ ?_ <;> simp [walkF, hi]

theorem inOrder_ok (K : Nat → List Int) (n : Nat) (hn : n ≤ 1048576) (g : FuncId) (caps : List AV) (hp : ∀ x ∈ caps, AvPure x) (hc : ∀ hp, caps.map (AV.pur1 hp) = caps) (hK : ∀ i, i < n → (K i).length ≤ 1048576 ∧ CallsF Tryz.prog g (.int .i64 i :: caps) (.sl ((K i).map av))) :
    CallsF Tryz.prog 107 [.int .i64 n, .fn g caps] (.bool (treeB K n)) := by
  refine fun_impl_inOrder rfl (by simp; exact ⟨pint _, AvPure.fn hp⟩) (AvPure.bool _) ?_
  simp +contextual -dsimp only [↓SD, SU, SB, Nat.reduceAdd, Nat.reduceBEq, Nat.reduceEqDiff, Nat.reduceLeDiff, Nat.reduceLT, Nat.reduceSub, ↓reduceIte, zA, zI, zN, reduceCtorEq, Int.reduceToNat, zE, ir_impl_inOrder, rs_impl_inOrder, hc]
  intro v5 v6
  have C := walk_ok K n hn g caps hc hK v5 v6 (n + 1) 0 0 (Nat.zero_le _) (by omega)
  refine aCallH_of [5, 6] C (by simp +contextual -dsimp only [↓SD, SU, SB, Nat.reduceAdd, Nat.reduceBEq, Nat.reduceEqDiff, Nat.reduceLeDiff, Nat.reduceLT, Nat.reduceSub, ↓reduceIte, zA, zI, zN, reduceCtorEq, Int.reduceToNat, zE, ordHp_as]) ?_
  rintro r hp' ⟨nx', rfl, rfl, hnx'⟩
  have e0 : walkF K n (n + 1) 0 0 = endF K n (n + 1) 0 := by rw [walkF, if_pos (by rfl)]
  rw [e0] at hnx' ⊢
  cases ho : endF K n (n + 1) 0 with
  | none =>
    simp +contextual -dsimp only [↓SD, SU, SB, Nat.reduceAdd, Nat.reduceBEq, Nat.reduceEqDiff, Nat.reduceLeDiff, Nat.reduceLT, Nat.reduceSub, ↓reduceIte, zA, zI, zN, reduceCtorEq, Int.reduceToNat, zE, ho, Option.isSome_none]
    simp [treeB, ho]
  | some m =>
    obtain rfl := hnx' m ho
    simp +contextual -dsimp only [↓SD, SU, SB, Nat.reduceAdd, Nat.reduceBEq, Nat.reduceEqDiff, Nat.reduceLeDiff, Nat.reduceLT, Nat.reduceSub, ↓reduceIte, zA, zI, zN, reduceCtorEq, Int.reduceToNat, zE, ho, Option.isSome_some, ordHp_as]
    simp [treeB, ho]
end Go.Proofs.YtbcifdnfhoikiaaGreat
