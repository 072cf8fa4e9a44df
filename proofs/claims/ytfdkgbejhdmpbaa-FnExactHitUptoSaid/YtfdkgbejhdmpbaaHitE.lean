/-
  HOW LARGE THE VALUES ARE THAT A PATTERN BINDS; the comparison of lists of values. Conditions: none.
-/
import Derived.Test.YtfdkgbejhdmpbaaHitOwn
import Derived.Test.YtfdkgbejhdmpbaaIrLHit
set_option linter.unusedVariables false
set_option linter.unusedSimpArgs false
set_option maxRecDepth 100000
namespace Go.Proofs.Ytfdkgbejhdmpbaa
open Go.RowKit Go.Proofs.Ytfdkgbejhdmpbaa.Av Go.Proofs.Ytfdkgbejhdmpbaa.Ml
open Go.Proofs.Ytfdkgbejhdmpbaa.Av.AVal (av)

theorem eqDataS_big (l : List Data) (hl : l.length ≤ 1048576) (hx : ∀ x ∈ l, Bulk.bulk x ≤ 1048576) : CallsF Try.prog 17 [.sl (l.map av), .sl (l.map av)] (.bool true) := by
  refine fun_laws_eqDataS rfl (by simp; exact lav_clean l) (AvPure.bool _) ?_
  simp +contextual -dsimp (maxSteps := 2000000) only [↓SD, SU, SB, Nat.reduceAdd, Nat.reduceBEq, Nat.reduceEqDiff, Nat.reduceLeDiff, Nat.reduceLT, Nat.reduceSub, ↓reduceIte, zA, zI, zN, reduceCtorEq, Int.reduceToNat, zE, ir_laws_eqDataS, rs_laws_eqDataS, map_len]
  refine aLoop_of (X := Nat) (fun k => ⟨[(0, .sl (l.map av)), (1, .sl (l.map av)), (5, .int .i64 k)], []⟩) (fun k => k ≤ l.length) (fun k => l.length - k) 0 (Nat.zero_le _) (by simp +contextual -dsimp only [↓SD, SU, SB, Nat.reduceAdd, Nat.reduceBEq, Nat.reduceEqDiff, Nat.reduceLeDiff, Nat.reduceLT, Nat.reduceSub, ↓reduceIte, zA, zI, zN, reduceCtorEq, Int.reduceToNat, zE]) trivial ?_
  intro k hk
  by_cases hlt : k < l.length
  · have e := getD_map av l k .top hlt
    have hbk : Bulk.bulk l[k] ≤ 1048576 := hx _ (List.getElem_mem hlt)
    simp +contextual -dsimp (maxSteps := 2000000) only [↓SD, SU, SB, Nat.reduceAdd, Nat.reduceBEq, Nat.reduceEqDiff, Nat.reduceLeDiff, Nat.reduceLT, Nat.reduceSub, ↓reduceIte, zA, zI, zN, reduceCtorEq, Int.reduceToNat, zE, map_len, hlt, e, av_Data]
    have C := eqData_ok l[k] hbk
    rw [av_Data] at C
    refine aCallK_of _ C ?_
    simp +contextual -dsimp (maxSteps := 2000000) only [↓SD, SU, SB, Nat.reduceAdd, Nat.reduceBEq, Nat.reduceEqDiff, Nat.reduceLeDiff, Nat.reduceLT, Nat.reduceSub, ↓reduceIte, zA, zI, zN, reduceCtorEq, Int.reduceToNat, zE, map_len, hlt, e, av_Data]
    exact ⟨by omega, Goes.le ⟨k + 1, ⟨hlt, (by first | omega | (simp only; omega))⟩, rfl⟩ (by simp +contextual -dsimp only [↓SD, SU, SB, Nat.reduceAdd, Nat.reduceBEq, Nat.reduceEqDiff, Nat.reduceLeDiff, Nat.reduceLT, Nat.reduceSub, ↓reduceIte, zA, zI, zN, reduceCtorEq, Int.reduceToNat, zE, Int.natCast_add]) trivial⟩
  · obtain rfl : k = l.length := by omega
    simp +contextual -dsimp (maxSteps := 2000000) only [↓SD, SU, SB, Nat.reduceAdd, Nat.reduceBEq, Nat.reduceEqDiff, Nat.reduceLeDiff, Nat.reduceLT, Nat.reduceSub, ↓reduceIte, zA, zI, zN, reduceCtorEq, Int.reduceToNat, zE, map_len, Nat.lt_irrefl]
mutual
def pxB : Px → Nat
  | .mk h ks => 5 + h.s.size + ks.length + pxBs ks
def pxBs : List Px → Nat
  | [] => 0
  | t :: ts => pxB t + pxBs ts
end
theorem bulk_sum {α : Type} [Bulk α] : ∀ l : List α, Bulk.bulk l = (l.map Bulk.bulk).sum + 1
  | [] => rfl
  | a :: l => by
    have := bulk_sum l
    show Bulk.bulk a + Bulk.bulk l = _
    rw [this, List.map_cons, List.sum_cons]; omega
def pB (p : PNode) : Nat := 5 + p.s.size + p.kids.length
theorem flatXs_B {ks : List Px} (h : ∀ k ∈ ks, ∀ b, ((flatX b k).map pB).sum = pxB k) : ∀ b, ((flatXs b ks).map pB).sum = pxBs ks := by
  induction ks with
  | nil => intro b; rw [flatXs, pxBs]; rfl
  | cons k ks ih =>
    intro b
    rw [flatXs, pxBs, List.map_append, List.sum_append, h k (by simp), ih (fun k hk => h k (by simp [hk]))]
theorem flatX_B : ∀ e b, ((flatX b e).map pB).sum = pxB e := Px.ind fun n ks ih b => by
  rw [flatX, pxB, List.map_cons, List.sum_cons, flatXs_B ih]
  show 5 + n.s.size + (kidPos (b + 1) ks).length + _ = _
  rw [kidPos_len]
theorem bulk_dflat (e : Px) : Bulk.bulk (dflat e) = pxB e + 1 := by
  rw [bulk_sum, dflat, List.map_map, ← flatX_B e 0]
  congr 2
  refine List.map_congr_left fun p _ => ?_
  show Bulk.bulk p.kind + Bulk.bulk p.n + (p.s.size + 1) + Bulk.bulk p.kids + 1 = 5 + p.s.size + p.kids.length
  have h1 : Bulk.bulk p.kind = 1 := rfl
  have h2 : Bulk.bulk p.n = 1 := rfl
  rw [bulk_len_int, h1, h2]; omega
theorem hitXs_B {ks : List Px} (ih : ∀ k ∈ ks, ∀ d l, hitX k d = some l → ∀ x ∈ l, pxB x ≤ pxB d) : ∀ ds l, hitXs ks ds = some l → ∀ x ∈ l, pxB x ≤ pxBs ds := by
  induction ks with
  | nil => intro ds l e x hx; rw [hitXs] at e; cases e; cases hx
  | cons k ks ihk =>
    intro ds l e x hx
    cases ds with
    | nil => rw [hitXs] at e; cases e
    | cons d ds =>
      rw [hitXs] at e
      cases h1 : hitX k d with
      | none => rw [h1] at e; cases e
      | some a =>
        rw [h1] at e
        simp only at e
        cases h2 : hitXs ks ds with
        | none => rw [h2] at e; cases e
        | some b =>
          rw [h2] at e
          cases e
          rw [pxBs]
          rcases List.mem_append.1 hx with h | h
          · have := ih k (by simp) d a h1 x h; omega
          · have := ihk (fun k hk => ih k (by simp [hk])) ds b h2 x h; omega
theorem hitX_B : ∀ q d l, hitX q d = some l → ∀ x ∈ l, pxB x ≤ pxB d := Px.ind fun n ks ih d l e x hx => by
  rw [hitX] at e
  split at e
  · cases e; cases hx
  · split at e
    · cases e; simp at hx; subst hx; exact Nat.le_refl _
    · split at e
      · have := hitXs_B ih _ _ e x hx
        obtain ⟨m, es⟩ := d
        rw [pxB]
        simp only [Px.kids] at this
        omega
      · cases e
theorem dflat_dtree {l : List DNode} (h : treeB (dkids l) l.length = true) (hl : 1 ≤ l.length) : dflat (dtree l 0) = l := by
  have hk : ∀ i, i < l.length → ∀ k ∈ dkids l i, (i : Int) < k ∧ k < l.length := fun i hi k hk => tree_in h hi hk
  rw [part_seg hk (of_decide_eq_true h)]
  rw [List.drop_zero, Nat.sub_zero, List.take_length]
  have : ∀ n : DNode, shD (-((0 : Nat) : Int)) n = n := fun n => by
    obtain ⟨a, b, c, d⟩ := n
    simp [shD]
  rw [List.map_congr_left (g := id) fun n _ => this n, List.map_id]
theorem hitL_bulk {q : List PNode} {d : List DNode} : (hitL q d).length ≤ 600 ∧ ∀ x ∈ hitL q d, Bulk.bulk x ≤ Bulk.bulk d + 1 := by
  cases ho : hitO q d with
  | none => rw [(hitL_none ho).1]; exact ⟨by simp, fun x hx => by cases hx⟩
  | some l =>
    rw [(hitL_some ho).1]
    unfold hitO at ho
    split at ho
    · rename_i hb
      obtain ⟨dl, dt⟩ := dataB_at hb.2
      obtain ⟨pl, pt, _⟩ := patB_at hb.1
      cases hh : hitX (ptree q 0) (dtree d 0) with
      | none => rw [hh] at ho; cases ho
      | some m =>
        rw [hh] at ho
        cases ho
        have h1 := hitX_len _ _ _ hh
        have h2 : pxN (ptree q 0) = q.length := tree_size pt (fun i hi k hk => tree_in pt hi hk) (by omega)
        refine ⟨by simp; omega, fun x hx => ?_⟩
        obtain ⟨y, hy, rfl⟩ := List.mem_map.1 hx
        have h3 := hitX_B _ _ _ hh y hy
        have h4 : Bulk.bulk (⟨dflat y⟩ : Data) = Bulk.bulk (dflat y) + 1 := rfl
        have h5 := bulk_dflat y
        have h6 := bulk_dflat (dtree d 0)
        rw [dflat_dtree dt dl.1] at h6
        omega
    · cases ho
theorem bulk_le_len {α : Type} [Bulk α] {m : Nat} : ∀ {l : List α}, (∀ x ∈ l, Bulk.bulk x ≤ m) → Bulk.bulk l ≤ l.length * m + 1
  | [], _ => by simp [bulk_sum]
  | a :: l, h => by
    have h1 := bulk_le_len (l := l) fun x hx => h x (List.mem_cons_of_mem _ hx)
    have h2 := h a List.mem_cons_self
    have h3 : Bulk.bulk (a :: l) = Bulk.bulk a + Bulk.bulk l := rfl
    rw [h3, List.length_cons, Nat.add_mul]; omega
end Go.Proofs.Ytfdkgbejhdmpbaa
