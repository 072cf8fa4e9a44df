/-
  THE GROUND OF DATA, in one text. Conditions: none.
-/
import Derived.Test.YtohalepkikjinaaPackA
import Derived.Test.YtohalepkikjinaaIrWithinA
import Derived.Test.YtohalepkikjinaaAvSimp
import Derived.Test.YtohalepkikjinaaIrTree

set_option linter.unusedVariables false
set_option linter.unusedSimpArgs false
set_option maxRecDepth 100000
namespace Go.Proofs.Ytohalepkikjinaa
open Go.RowKit Go.Proofs.Ytohalepkikjinaa.Av Go.Proofs.Ytohalepkikjinaa.Ml
open Go.Proofs.Ytohalepkikjinaa.Av.AVal (av)

theorem pu8 (n : Int) : AvPure (.int .u8 n) := AvPure.int _ _
theorem within_ok (n lo hi : Int) : CallsF Try.prog 36 [.int .i64 n, .int .i64 lo, .int .i64 hi] (.bool (decide (lo ≤ n) && decide (n ≤ hi))) := by
  refine fun_impl_within rfl (by simp; exact ⟨AvPure.int _ _, AvPure.int _ _, AvPure.int _ _⟩) (AvPure.bool _) ?_
  simp +contextual -dsimp (maxSteps := 2000000) only [↓SD, SU, SB, Nat.reduceAdd, Nat.reduceBEq, Nat.reduceEqDiff, Nat.reduceLeDiff, Nat.reduceLT, Nat.reduceSub, ↓reduceIte, zA, zI, zN, reduceCtorEq, Int.reduceToNat, zE, ir_impl_within, rs_impl_within]
  (repeat' (first | intro _ | refine And.intro ?_ ?_))
  all_goals simp [*]

theorem b8 (s : ByteArray) (i : Nat) : (0 : Int) ≤ (byteAt s i).toNat ∧ ((byteAt s i).toNat : Int) ≤ 255 := by
  have := (byteAt s i).toNat_lt; omega

def indexOf {α : Type} (l : List α) (p : α → Bool) : Int := match l.findIdx? p with | some i => (i : Int) | none => -1
theorem indexOf_at {α : Type} {l : List α} {p : α → Bool} {k : Nat} (hk : k < l.length) (h : (l.take k).all (fun x => !p x) = true) (hp : p l[k] = true) : indexOf l p = k := by
  have : l.findIdx? p = some k := by
    rw [List.findIdx?_eq_some_iff_getElem]
    refine ⟨hk, hp, fun j hj => ?_⟩
    have := (List.all_eq_true.1 h) l[j] (by rw [List.mem_take_iff_getElem]; exact ⟨j, by omega, rfl⟩)
    simpa using this
  simp [indexOf, this]
theorem indexOf_none {α : Type} {l : List α} {p : α → Bool} (h : l.all (fun x => !p x) = true) : indexOf l p = -1 := by
  have : l.findIdx? p = none := by
    rw [List.findIdx?_eq_none_iff]
    intro x hx
    simpa using (List.all_eq_true.1 h) x hx
  simp [indexOf, this]
theorem indexOf_neg {α : Type} (l : List α) (p : α → Bool) : decide (0 ≤ indexOf l p) = l.any p := by
  unfold indexOf
  cases h : l.findIdx? p with
  | none =>
    rw [List.findIdx?_eq_none_iff] at h
    have : l.any p = false := by rw [List.any_eq_false]; intro x hx; simp [h x hx]
    simp [this]
  | some i =>
    rw [List.findIdx?_eq_some_iff_getElem] at h
    obtain ⟨hi, hp, _⟩ := h
    have : l.any p = true := by rw [List.any_eq_true]; exact ⟨l[i], List.getElem_mem hi, hp⟩
    simp [this]
end Go.Proofs.Ytohalepkikjinaa


namespace Go.Proofs.Ytohalepkikjinaa

/-- the children one after the other: each stands where the one ahead ends -/
def kidsF (e : Nat → Option Nat) : List Int → Nat → Option Nat
  | [], nx => some nx
  | k :: ks, nx => if k = nx then (match e nx with | some m => kidsF e ks m | none => none) else none
/-- the place behind the tree at a place -/
def endF (K : Nat → List Int) (n : Nat) : Nat → Nat → Option Nat
  | 0, _ => none
  | f + 1, i => if i < n then kidsF (endF K n f) (K i) (i + 1) else none
/-- a walk's step: the tree at i, where next is due -/
def walkF (K : Nat → List Int) (n f : Nat) (i : Int) (nx : Nat) : Option Nat := if i = nx then endF K n f nx else none

theorem kids_le {e : Nat → Option Nat} {n : Nat} (he : ∀ a m, e a = some m → a < m ∧ m ≤ n) : ∀ {ks : List Int} {a m : Nat}, kidsF e ks a = some m → a ≤ n → a ≤ m ∧ m ≤ n
  | [], a, m, h, ha => by cases h; exact ⟨Nat.le_refl _, ha⟩
  | k :: ks, a, m, h, ha => by
    unfold kidsF at h
    split at h
    · split at h
      · rename_i m' hm'
        have h1 := he _ _ hm'
        have h2 := kids_le he h h1.2
        omega
      · cases h
    · cases h
theorem end_le (K : Nat → List Int) (n : Nat) : ∀ (f a m : Nat), endF K n f a = some m → a < m ∧ m ≤ n
  | 0, a, m, h => by cases h
  | f + 1, a, m, h => by
    unfold endF at h
    split at h
    · have := kids_le (end_le K n f) h (by omega)
      omega
    · cases h
/-- more steps give no less -/
theorem kids_mono {e e' : Nat → Option Nat} (he : ∀ a m, e a = some m → e' a = some m) : ∀ {ks : List Int} {a m : Nat}, kidsF e ks a = some m → kidsF e' ks a = some m
  | [], a, m, h => h
  | k :: ks, a, m, h => by
    unfold kidsF at h ⊢
    split at h
    · rename_i hk
      rw [if_pos hk]
      split at h
      · rename_i m' hm'
        rw [he _ _ hm']
        exact kids_mono he h
      · cases h
    · cases h
theorem end_mono (K : Nat → List Int) (n : Nat) : ∀ (f a m : Nat), endF K n f a = some m → endF K n (f + 1) a = some m
  | 0, a, m, h => by cases h
  | f + 1, a, m, h => by
    unfold endF at h ⊢
    split at h
    · rename_i hl; rw [if_pos hl]; exact kids_mono (end_mono K n f) h
    · cases h
theorem end_more (K : Nat → List Int) (n : Nat) {f a m : Nat} (h : endF K n f a = some m) : ∀ g, f ≤ g → endF K n g a = some m := by
  intro g hg
  induction g with
  | zero => obtain rfl : f = 0 := by omega
            exact h
  | succ g ih =>
    rcases Nat.lt_or_ge g f with h1 | h1
    · obtain rfl : f = g + 1 := by omega
      exact h
    · exact end_mono K n g a m (ih h1)
/-- enough steps are all -/
theorem kids_enough {e e' : Nat → Option Nat} {n b : Nat} (hle : ∀ a m, e a = some m → a < m ∧ m ≤ n) (he : ∀ a, b ≤ a → e a = e' a) : ∀ {ks : List Int} {a : Nat}, b ≤ a → kidsF e ks a = kidsF e' ks a
  | [], a, _ => rfl
  | k :: ks, a, ha => by
    unfold kidsF
    rw [he a ha]
    split
    · cases hm : e' a with
      | none => rfl
      | some m =>
        have := hle a m (by rw [he a ha]; exact hm)
        exact kids_enough hle he (by omega)
    · rfl
theorem end_enough (K : Nat → List Int) (n : Nat) : ∀ (f a : Nat), n - a < f → endF K n f a = endF K n (f + 1) a
  | 0, a, h => by omega
  | f + 1, a, h => by
    rw [endF, endF]
    split
    · refine kids_enough (b := a + 1) (end_le K n f) (fun c hc => ?_) (Nat.le_refl _)
      exact end_enough K n f c (by omega)
    · rfl
theorem end_any (K : Nat → List Int) (n : Nat) {f a : Nat} (h : n - a < f) : ∀ g, f ≤ g → endF K n g a = endF K n f a := by
  intro g hg
  induction g with
  | zero => omega
  | succ g ih =>
    rcases Nat.lt_or_ge g f with h1 | h1
    · obtain rfl : f = g + 1 := by omega
      rfl
    · rw [← end_enough K n g a (by omega)]; exact ih h1
/-- the children of what lies within lie within, behind it -/
theorem kids_in {K : Nat → List Int} {n : Nat} {e : Nat → Option Nat} (hle : ∀ a m, e a = some m → a < m ∧ m ≤ n) (he : ∀ a m, e a = some m → ∀ i, a ≤ i → i < m → ∀ k ∈ K i, (i : Int) < k ∧ k < n) :
    ∀ {ks : List Int} {a m : Nat}, a ≤ n → kidsF e ks a = some m → (∀ k ∈ ks, (a : Int) ≤ k ∧ k < m) ∧ ∀ i, a ≤ i → i < m → ∀ k ∈ K i, (i : Int) < k ∧ k < n
  | [], a, m, _, h => by cases h; exact ⟨fun k hk => (by cases hk), fun i h1 h2 => by omega⟩
  | k :: ks, a, m, ha, h => by
    unfold kidsF at h
    split at h
    · rename_i hk
      split at h
      · rename_i m' hm'
        have h1 := hle _ _ hm'
        have h2 := kids_in hle he h1.2 h
        have h3 := kids_le hle h h1.2
        refine ⟨fun x hx => ?_, fun i h4 h5 => ?_⟩
        · rcases List.mem_cons.1 hx with rfl | hx
          · omega
          · have := h2.1 x hx; omega
        · rcases Nat.lt_or_ge i m' with h6 | h6
          · exact he _ _ hm' i h4 h6
          · exact h2.2 i h6 h5
      · cases h
    · cases h
theorem end_in (K : Nat → List Int) (n : Nat) : ∀ (f a m : Nat), endF K n f a = some m → ∀ i, a ≤ i → i < m → ∀ k ∈ K i, (i : Int) < k ∧ k < n
  | 0, a, m, h => by cases h
  | f + 1, a, m, h => by
    have hm := end_le K n (f + 1) a m h
    unfold endF at h
    split at h
    · rename_i hl
      have h1 := kids_in (end_le K n f) (end_in K n f) (by omega) h
      intro i hi him k hk
      rcases Nat.lt_or_ge a i with h2 | h2
      · exact h1.2 i (by omega) him k hk
      · obtain rfl : i = a := by omega
        have := h1.1 k hk
        omega
    · cases h
/-- whether n nodes are one tree, in the walk's order -/
def treeB (K : Nat → List Int) (n : Nat) : Bool := decide (endF K n (n + 1) 0 = some n)
theorem tree_in {K : Nat → List Int} {n : Nat} (h : treeB K n = true) {i : Nat} (hi : i < n) {k : Int} (hk : k ∈ K i) : (i : Int) < k ∧ k < n :=
  end_in K n _ 0 n (of_decide_eq_true h) i (Nat.zero_le _) hi k hk
end Go.Proofs.Ytohalepkikjinaa


set_option linter.unusedVariables false
namespace Go.Proofs.Ytohalepkikjinaa
open Go.RowKit Go.Proofs.Ytohalepkikjinaa.Av
open Go.Proofs.Ytohalepkikjinaa.Av.AVal (av)
open AVal (av)

theorem getD_at {α : Type} {l : List α} {k : Nat} (h : k < l.length) (d : α) : l.getD k d = l[k] := by simp [List.getD_eq_getElem?_getD, h]
theorem av_getD {α : Type} [AVal α] (d : List α) (z : α) {j : Nat} (h : j < d.length) : (d.map av).getD j .top = av (d.getD j z) := by
  rw [getD_map av d j .top h, getD_at h]
theorem take_map {α β : Type} (f : α → β) (l : List α) : (l.map f).take l.length = l.map f := by rw [List.take_of_length_le]; simp
/-- every number below n has the property -/
def allI (p : Nat → Bool) (n : Nat) : Bool := (List.range n).all p
theorem allI_true {p : Nat → Bool} {n : Nat} (h : ∀ i, i < n → p i = true) : allI p n = true := by
  unfold allI; rw [List.all_eq_true]; intro i hi; exact h i (List.mem_range.1 hi)
theorem allI_false {p : Nat → Bool} {n i : Nat} (hi : i < n) (h : p i = false) : allI p n = false := by
  unfold allI; rw [List.all_eq_false]; exact ⟨i, List.mem_range.2 hi, by simp [h]⟩
theorem allI_iff {p : Nat → Bool} {n : Nat} : allI p n = true ↔ ∀ i, i < n → p i = true := by
  unfold allI; rw [List.all_eq_true]; exact ⟨fun h i hi => h i (List.mem_range.2 hi), fun h i hi => h i (List.mem_range.1 hi)⟩
end Go.Proofs.Ytohalepkikjinaa


set_option linter.unusedVariables false
set_option linter.unusedSimpArgs false
set_option maxRecDepth 100000
namespace Go.Proofs.Ytohalepkikjinaa
open Go.RowKit Go.Proofs.Ytohalepkikjinaa.Av Go.Proofs.Ytohalepkikjinaa.Ml
open Go.Proofs.Ytohalepkikjinaa.Av.AVal (av)

/-- the closure's rows -/
def ordHp (n : Nat) (g : FuncId) (caps : List AV) (v5 v6 : Nat) (nx : Nat) : Hp :=
  [(5, ⟨v5, false, 3, 1, [.int .i64 nx]⟩), (6, ⟨v6, false, 101, 1, [.fn 57 [.ptr 5 v5 0 0, .obj [.int .i64 n], .obj [.fn g caps], .ptr 6 v6 0 0]]⟩)]
theorem ordHp_as (n : Nat) (g : FuncId) (caps : List AV) (v5 v6 : Nat) (nx : Nat) : ordHp n g caps v5 v6 nx = [(5, ⟨v5, false, 3, 1, [.int .i64 nx]⟩), (6, ⟨v6, false, 101, 1, [.fn 57 [.ptr 5 v5 0 0, .obj [.int .i64 n], .obj [.fn g caps], .ptr 6 v6 0 0]]⟩)] := eqq rfl
def OrdPost (n : Nat) (g : FuncId) (caps : List AV) (v5 v6 : Nat) (o : Option Nat) (r : AV) (hp' : Hp) : Prop :=
  ∃ nx', r = .bool o.isSome ∧ hp' = ordHp n g caps v5 v6 nx' ∧ (∀ m, o = some m → nx' = m)
theorem OrdPost.of {n : Nat} {g : FuncId} {caps : List AV} {v5 v6 nx : Nat} {o : Option Nat} {b : Bool} (h : o.isSome = b) (hm : ∀ m, o = some m → nx = m) : OrdPost n g caps v5 v6 o (.bool b) (ordHp n g caps v5 v6 nx) := ⟨nx, by rw [h], rfl, hm⟩
theorem walk_ok (K : Nat → List Int) (n : Nat) (hn : n ≤ 1048576) (g : FuncId) (caps : List AV) (hc : ∀ hp, caps.map (AV.pur1 hp) = caps) (hK : ∀ i, i < n → (K i).length ≤ 1048576 ∧ CallsF Try.prog g (.int .i64 i :: caps) (.sl ((K i).map av))) (v5 v6 : Nat) :
    ∀ (f : Nat) (i : Int) (nx : Nat), nx ≤ n → n - nx < f → CallsH Try.prog 57 [.int .i64 i, .ptr 5 v5 0 0, .obj [.int .i64 n], .obj [.fn g caps], .ptr 6 v6 0 0] (ordHp n g caps v5 v6 nx) (OrdPost n g caps v5 v6 (walkF K n f i nx)) := by
  intro f
  induction f with
  | zero => intro i nx _ h; omega
  | succ f ih =>
    intro i nx hnx hf
    refine funH_impl_inOrder_1 rfl ?_
    simp +contextual -dsimp only [↓SD, SU, SB, Nat.reduceAdd, Nat.reduceBEq, Nat.reduceEqDiff, Nat.reduceLeDiff, Nat.reduceLT, Nat.reduceSub, ↓reduceIte, zA, zI, zN, reduceCtorEq, Int.reduceToNat, zE, ir_impl_inOrder_1, rs_impl_inOrder_1, ordHp_as, hc]
    refine ⟨fun hi => ⟨fun hle => ?_, fun hle => ⟨by omega, ?_⟩⟩, fun hi => ?_⟩
    · refine Goes.post (ordHp n g caps v5 v6 nx) ?_
      simp +contextual -dsimp only [↓SD, SU, SB, Nat.reduceAdd, Nat.reduceBEq, Nat.reduceEqDiff, Nat.reduceLeDiff, Nat.reduceLT, Nat.reduceSub, ↓reduceIte, zA, zI, zN, reduceCtorEq, Int.reduceToNat, zE, ordHp_as]
      refine OrdPost.of ?_ ?_ <;> simp [walkF, endF, hi, Nat.not_lt.2 hle]
    · obtain ⟨hk1, hk2⟩ := hK nx (by omega)
      refine aCallK_of _ hk2 ?_
      simp +contextual -dsimp only [↓SD, SU, SB, Nat.reduceAdd, Nat.reduceBEq, Nat.reduceEqDiff, Nat.reduceLeDiff, Nat.reduceLT, Nat.reduceSub, ↓reduceIte, zA, zI, zN, reduceCtorEq, Int.reduceToNat, zE, map_len]
      refine aLoop_of (X := Nat × Nat) (fun x => ⟨[(4, .ptr 6 v6 0 0), (21, .sl ((K nx).map av)), (22, .int .i64 (K nx).length), (23, .int .i64 x.1)], ordHp n g caps v5 v6 x.2⟩) (fun x => x.1 ≤ (K nx).length ∧ nx < x.2 ∧ x.2 ≤ n ∧ kidsF (endF K n f) (K nx) (nx + 1) = kidsF (endF K n f) ((K nx).drop x.1) x.2) (fun x => (K nx).length - x.1) (0, nx + 1) ⟨Nat.zero_le _, by simp, by simp only; omega, rfl⟩ (by simp +contextual -dsimp only [↓SD, SU, SB, Nat.reduceAdd, Nat.reduceBEq, Nat.reduceEqDiff, Nat.reduceLeDiff, Nat.reduceLT, Nat.reduceSub, ↓reduceIte, zA, zI, zN, reduceCtorEq, Int.reduceToNat, zE]) (by simp +contextual -dsimp only [↓SD, SU, SB, Nat.reduceAdd, Nat.reduceBEq, Nat.reduceEqDiff, Nat.reduceLeDiff, Nat.reduceLT, Nat.reduceSub, ↓reduceIte, zA, zI, zN, reduceCtorEq, Int.reduceToNat, zE, ordHp_as, Int.natCast_add]) ?_
      rintro ⟨j, m⟩ ⟨hj, hm1, hm2, he⟩
      simp only at hj hm1 hm2 he
      have hw : walkF K n (f + 1) i nx = kidsF (endF K n f) ((K nx).drop j) m := by
        rw [walkF, if_pos hi, endF, if_pos (by omega), he]
      by_cases hlt : j < (K nx).length
      · have e := getD_map av (K nx) j .top hlt
        rw [List.drop_eq_getElem_cons hlt, kidsF] at he
        have hw' : walkF K n (f + 1) i nx = match walkF K n f (K nx)[j] m with | some m' => kidsF (endF K n f) ((K nx).drop (j + 1)) m' | none => none := by
          rw [hw, List.drop_eq_getElem_cons hlt, kidsF, walkF]
          split <;> rfl
        have C := ih (K nx)[j] m hm2 (by omega)
        simp +contextual -dsimp only [↓SD, SU, SB, Nat.reduceAdd, Nat.reduceBEq, Nat.reduceEqDiff, Nat.reduceLeDiff, Nat.reduceLT, Nat.reduceSub, ↓reduceIte, zA, zI, zN, reduceCtorEq, Int.reduceToNat, zE, map_len, e, av_int, hlt, ordHp_as, hc]
        refine aCallH_of [5, 6] C (by simp +contextual -dsimp only [↓SD, SU, SB, Nat.reduceAdd, Nat.reduceBEq, Nat.reduceEqDiff, Nat.reduceLeDiff, Nat.reduceLT, Nat.reduceSub, ↓reduceIte, zA, zI, zN, reduceCtorEq, Int.reduceToNat, zE, ordHp_as]) ?_
        rintro r hp' ⟨nx', rfl, rfl, hnx'⟩
        cases ho : walkF K n f (K nx)[j] m with
        | none =>
          rw [ho] at hw'
          simp +contextual -dsimp only [↓SD, SU, SB, Nat.reduceAdd, Nat.reduceBEq, Nat.reduceEqDiff, Nat.reduceLeDiff, Nat.reduceLT, Nat.reduceSub, ↓reduceIte, zA, zI, zN, reduceCtorEq, Int.reduceToNat, zE, ho, Option.isSome_none]
          refine Goes.post (ordHp n g caps v5 v6 nx') ?_
          simp +contextual -dsimp only [↓SD, SU, SB, Nat.reduceAdd, Nat.reduceBEq, Nat.reduceEqDiff, Nat.reduceLeDiff, Nat.reduceLT, Nat.reduceSub, ↓reduceIte, zA, zI, zN, reduceCtorEq, Int.reduceToNat, zE, ordHp_as]
          rw [hw']
          exact OrdPost.of rfl (fun m h => by cases h)
        | some m' =>
          rw [ho] at hw'
          obtain rfl := hnx' m' ho
          have hm' : m < nx' ∧ nx' ≤ n := by
            unfold walkF at ho
            split at ho
            · exact end_le K n f m nx' ho
            · cases ho
          simp +contextual -dsimp only [↓SD, SU, SB, Nat.reduceAdd, Nat.reduceBEq, Nat.reduceEqDiff, Nat.reduceLeDiff, Nat.reduceLT, Nat.reduceSub, ↓reduceIte, zA, zI, zN, reduceCtorEq, Int.reduceToNat, zE, ho, Option.isSome_some]
          refine ⟨by omega, Goes.le ⟨(j + 1, nx'), ⟨⟨hlt, by simp only; omega, hm'.2, ?_⟩, (by first | omega | (simp only; omega))⟩, rfl⟩ (by simp +contextual -dsimp only [↓SD, SU, SB, Nat.reduceAdd, Nat.reduceBEq, Nat.reduceEqDiff, Nat.reduceLeDiff, Nat.reduceLT, Nat.reduceSub, ↓reduceIte, zA, zI, zN, reduceCtorEq, Int.reduceToNat, zE, Int.natCast_add]) (by simp +contextual -dsimp only [↓SD, SU, SB, Nat.reduceAdd, Nat.reduceBEq, Nat.reduceEqDiff, Nat.reduceLeDiff, Nat.reduceLT, Nat.reduceSub, ↓reduceIte, zA, zI, zN, reduceCtorEq, Int.reduceToNat, zE, ordHp_as])⟩
          rw [he]
          simp only at hw' ⊢
          rw [walkF, if_pos hi, endF, if_pos (by omega), he] at hw'
          exact hw'
      · obtain rfl : j = (K nx).length := by omega
        rw [List.drop_length, kidsF] at hw
        simp +contextual -dsimp only [↓SD, SU, SB, Nat.reduceAdd, Nat.reduceBEq, Nat.reduceEqDiff, Nat.reduceLeDiff, Nat.reduceLT, Nat.reduceSub, ↓reduceIte, zA, zI, zN, reduceCtorEq, Int.reduceToNat, zE, map_len, Nat.lt_irrefl]
        refine Goes.post (ordHp n g caps v5 v6 m) ?_
        simp +contextual -dsimp only [↓SD, SU, SB, Nat.reduceAdd, Nat.reduceBEq, Nat.reduceEqDiff, Nat.reduceLeDiff, Nat.reduceLT, Nat.reduceSub, ↓reduceIte, zA, zI, zN, reduceCtorEq, Int.reduceToNat, zE, ordHp_as]
        rw [hw]
        exact OrdPost.of rfl (fun m h => by cases h; rfl)
    · refine Goes.post (ordHp n g caps v5 v6 nx) ?_
      simp +contextual -dsimp only [↓SD, SU, SB, Nat.reduceAdd, Nat.reduceBEq, Nat.reduceEqDiff, Nat.reduceLeDiff, Nat.reduceLT, Nat.reduceSub, ↓reduceIte, zA, zI, zN, reduceCtorEq, Int.reduceToNat, zE, ordHp_as]
      refine OrdPost.of ?_ ?_ <;> simp [walkF, hi]

theorem inOrder_ok (K : Nat → List Int) (n : Nat) (hn : n ≤ 1048576) (g : FuncId) (caps : List AV) (hp : ∀ x ∈ caps, AvPure x) (hc : ∀ hp, caps.map (AV.pur1 hp) = caps) (hK : ∀ i, i < n → (K i).length ≤ 1048576 ∧ CallsF Try.prog g (.int .i64 i :: caps) (.sl ((K i).map av))) :
    CallsF Try.prog 37 [.int .i64 n, .fn g caps] (.bool (treeB K n)) := by
  refine fun_impl_inOrder rfl (by simp; exact ⟨pint _, AvPure.fn hp⟩) (AvPure.bool _) ?_
  simp +contextual -dsimp only [↓SD, SU, SB, Nat.reduceAdd, Nat.reduceBEq, Nat.reduceEqDiff, Nat.reduceLeDiff, Nat.reduceLT, Nat.reduceSub, ↓reduceIte, zA, zI, zN, reduceCtorEq, Int.reduceToNat, zE, ir_impl_inOrder, rs_impl_inOrder, hc]
  intro v5 v6
  have C := walk_ok K n hn g caps hc hK v5 v6 (n + 1) 0 0 (Nat.zero_le _) (by omega)
  refine aCallH_of [5, 6] C (by simp +contextual -dsimp only [↓SD, SU, SB, Nat.reduceAdd, Nat.reduceBEq, Nat.reduceEqDiff, Nat.reduceLeDiff, Nat.reduceLT, Nat.reduceSub, ↓reduceIte, zA, zI, zN, reduceCtorEq, Int.reduceToNat, zE, ordHp_as]) ?_
  rintro r hp' ⟨nx', rfl, rfl, hnx'⟩
  have e0 : walkF K n (n + 1) 0 0 = endF K n (n + 1) 0 := by rw [walkF, if_pos (by rfl)]
  rw [e0] at hnx' ⊢
  cases ho : endF K n (n + 1) 0 with
  | none =>
    simp +contextual -dsimp only [↓SD, SU, SB, Nat.reduceAdd, Nat.reduceBEq, Nat.reduceEqDiff, Nat.reduceLeDiff, Nat.reduceLT, Nat.reduceSub, ↓reduceIte, zA, zI, zN, reduceCtorEq, Int.reduceToNat, zE, ho, Option.isSome_none]
    simp [treeB, ho]
  | some m =>
    obtain rfl := hnx' m ho
    simp +contextual -dsimp only [↓SD, SU, SB, Nat.reduceAdd, Nat.reduceBEq, Nat.reduceEqDiff, Nat.reduceLeDiff, Nat.reduceLT, Nat.reduceSub, ↓reduceIte, zA, zI, zN, reduceCtorEq, Int.reduceToNat, zE, ho, Option.isSome_some, ordHp_as]
    simp [treeB, ho]
end Go.Proofs.Ytohalepkikjinaa
