/-
 HOW LARGE A TREE OF QUESTIONS IS. Conditions: none.
-/
import Derived.Test.YteeiaaogmjbcjaaGreatUPlanD
import Derived.Test.YteeiaaogmjbcjaaGreatProg
import Derived.Test.YteeiaaogmjbcjaaGreatUAvDraw
set_option linter.unusedVariables false
namespace Go.Proofs.YteeiaaogmjbcjaaGreat
open Go.RowKit Go.Proofs.YteeiaaogmjbcjaaGreat.Av Go.Proofs.YteeiaaogmjbcjaaGreat.Ml
open Go.Proofs.YteeiaaogmjbcjaaGreat.Av.AVal (av)

def TOk (t : Tst) : Prop := t.path.length ≤ 600 ∧ t.s.size ≤ 12
def ROk (rows : List BI) : Prop := ∀ r ∈ rows, ∀ t ∈ r.AA, TOk t
theorem ROk.yes {rows : List BI} (h : ROk rows) (t : Tst) : ROk (BP rows t) := fun r hr x hx => by
 unfold BP at hr
 obtain ⟨q, hq, rfl⟩ := List.mem_map.1 hr
 exact h q (List.mem_filter.1 hq).1 x (List.mem_filter.1 hx).1
theorem ROk.no {rows : List BI} (h : ROk rows) (t : Tst) : ROk (noR rows t) := fun r hr x hx => h r (List.mem_filter.1 hr).1 x hx
theorem Qi : ∀ (f base : Nat) (rows : List BI), ROk rows → ∀ x ∈ A9 f base rows, x.path.length ≤ 600 ∧ x.s.size ≤ 12
 | 0, base, rows, h, x, hx => by rw [A9] at hx; cases hx
 | f + 1, base, rows, h, x, hx => by
  rw [A9] at hx
  split at hx
  ·cases hx
  ·cases rows with
   | nil =>
    rw [CE] at hx
    rw [List.mem_singleton.1 hx]
    exact ⟨Nat.zero_le _, Nat.zero_le _⟩
   | cons r rs =>
    rw [CE] at hx
    cases ht : r.AA with
    | nil =>
     rw [ht, DZ] at hx
     rw [List.mem_singleton.1 hx]
     exact ⟨Nat.zero_le _, Nat.zero_le _⟩
    | cons t ts =>
     rw [ht, DZ] at hx
     rcases List.mem_cons.1 hx with rfl | hx
     ·exact h r (by simp) t (by rw [ht]; simp)
     ·rcases List.mem_append.1 hx with hx | hx
      ·exact Qi f _ _ (h.yes t) x hx
      ·exact Qi f _ _ (h.no t) x hx
theorem Lf : ∀ (ks : List Px) (p : List Int) (i : Nat) (t : Tst), t ∈ AR ks p i → ∃ k ∈ ks, ∃ p', t ∈ Bu k p'
 | [], p, i, t, h => by rw [AR] at h; cases h
 | k :: ks, p, i, t, h => by
  rw [AR, List.mem_append] at h
  rcases h with h | h
  ·exact ⟨k, by simp, _, h⟩
  ·obtain ⟨k', h1, p', h2⟩ := Lf ks p (i + 1) t h
   exact ⟨k', List.mem_cons_of_mem _ h1, p', h2⟩
theorem Om {c : Int} {s : ByteArray} (h : Ga c s = true) : s.size ≤ 12 := by
 unfold Ga at h
 simp only [Bool.and_eq_true, decide_eq_true_eq] at h
 omega
theorem AaX {Q : List A0} {n : A0} (h : CM Q n = true) : n.s.size ≤ 12 := by
 unfold CM at h
 have e : ∀ l : List Nat, n.s = bs l → l.length ≤ 12 → n.s.size ≤ 12 := fun l hs hl => by rw [hs]; simpa [bs, ByteArray.size] using hl
 split at h
 ·simp only [Bool.and_eq_true, decide_eq_true_eq] at h
  exact e [] h.2 (by decide)
 ·split at h
  ·simp only [Bool.and_eq_true, decide_eq_true_eq] at h
   have h2 := h.2
   unfold Ih at h2
   simp only [Bool.and_eq_true] at h2
   exact Om h2.1
  ·split at h
   ·simp only [Bool.and_eq_true, decide_eq_true_eq] at h
    exact e [] h.1.2 (by decide)
   ·split at h
    ·simp only [Bool.and_eq_true] at h
     have h2 := h.2
     unfold El at h2
     split at h2
     ·rename_i hs
      rcases hs with hs | hs | hs
      ·exact e _ hs (by decide)
      ·exact e _ hs (by decide)
      ·exact e _ hs (by decide)
     ·split at h2
      ·rename_i hs
       exact e _ hs (by decide)
      ·simp only [Bool.and_eq_true] at h2
       exact Om h2.1
    ·split at h
     ·simp only [Bool.and_eq_true, decide_eq_true_eq] at h
      exact e [] h.2 (by decide)
     ·cases h
theorem AaJ {Q : List A0} (hq : Dy Q = true) : ∀ (f i : Nat) (p : List Int) (t : Tst), i < Q.length → t ∈ Bu (Dc (phd Q) (BK Q) f i) p → t.s.size ≤ 12 := by
 obtain ⟨pl, pt, pn⟩ := I2 hq
 have hn : ∀ i, i < Q.length → (phd Q i).s.size ≤ 12 := fun i hi => by
  have := pn i hi
  unfold Fi at this
  simp only [Bool.and_eq_true] at this
  exact AaX this.1
 intro f
 induction f with
 | zero =>
  intro i p t hi h
  rw [Dc, Bu] at h
  split at h
  ·cases h
  ·rw [AR] at h
   rw [List.mem_singleton.1 h]
   exact hn i hi
 | succ f ih =>
  intro i p t hi h
  rw [Dc, Bu] at h
  split at h
  ·cases h
  ·rcases List.mem_cons.1 h with rfl | h
   ·exact hn i hi
   ·obtain ⟨k, hk, p', h2⟩ := Lf _ _ _ _ h
    obtain ⟨j, hj, rfl⟩ := List.mem_map.1 hk
    have := IZ pt hi hj
    exact ih j.toNat p' t (by omega) h2
theorem AaO {l : List Pat} (i : Nat) (h : ∀ q ∈ l, Dy q.nodes = true) : ROk (A8 i (l.map fun q => B6 q.nodes 0)) := fun r hr t ht => by
 obtain ⟨q, hq, he⟩ := KS i _ r hr
 obtain ⟨p, hp, rfl⟩ := List.mem_map.1 hq
 rw [he] at ht
 have h1 := Lg _ _ t ht
 have h2 := Ic (h p hp)
 simp only [List.length_nil] at h1
 exact ⟨by omega, AaJ (h p hp) _ 0 [] t h2.2.2.1 ht⟩
theorem W4 {α : Type} [AE α] (n : Nat) : ∀ (l : List α), (∀ x ∈ l, AE.bulk x ≤ n) → AE.bulk l ≤ l.length * n + 1
 | [], _ => by simp [AE.bulk]
 | x :: l, h => by
  have h1 := W4 n l (fun y hy => h y (List.mem_cons_of_mem _ hy))
  have h2 := h x (by simp)
  simp only [AE.bulk, List.map_cons, List.sum_cons, List.length_cons] at h1 ⊢
  rw [Nat.add_mul]
  omega
theorem Ve (l : List Pat) : AE.bulk (⟨(Dd l).getD []⟩ : Ek) ≤ 400000 := by
 have hnone : AE.bulk (⟨[]⟩ : Ek) ≤ 400000 := by simp [AE.bulk]
 unfold Dd
 split
 ·exact hnone
 ·rename_i hc
  dsimp only
  split
  ·exact hnone
  ·rename_i hb
   rw [Option.getD_some]
   have hall : ∀ q ∈ l, Dy q.nodes = true := fun q hq => by
    by_cases h : Dy q.nodes = true
    ·exact h
    ·exact absurd (.inr (List.any_eq_true.2 ⟨q, hq, by simpa using h⟩)) hc
   have ho := Qi (wtR (A8 0 (l.map fun q => B6 q.nodes 0)) + 1) 0 _ (AaO 0 hall)
   generalize A9 (wtR (A8 0 (l.map fun q => B6 q.nodes 0)) + 1) 0 (A8 0 (l.map fun q => B6 q.nodes 0)) = P at *
   have h1 := W4 900 P (fun x hx => by
    have h1 := ho x hx
    have h2 := KB x.path
    simp only [AE.bulk] at h2 ⊢
    omega)
   have h2 : P.length * 900 ≤ 400 * 900 := Nat.mul_le_mul_right _ (by omega)
   show AE.bulk P + 1 ≤ 400000
   omega
end Go.Proofs.YteeiaaogmjbcjaaGreat
set_option linter.unusedVariables false
set_option maxRecDepth 100000
namespace Go.Proofs.YteeiaaogmjbcjaaGreat
open Go.Proofs.YteeiaaogmjbcjaaGreat.Av

theorem CO : Tryz.prog.follows .mixedOrders = true := by kernel_rfl

def E8 : Ir Tryz.prog 96 [] [] 2 := ⟨_, _, Tryz.func96, CO, by kernel_rfl, Az [] Tryz.progTables (by conv => lhs; cbv) (by kernel_rfl)⟩
def C8 : Ir Tryz.prog 97 [] [] 2 := ⟨_, _, Tryz.func97, CO, by kernel_rfl, Az [] Tryz.progTables (by conv => lhs; cbv) (by kernel_rfl)⟩
def DL : Ir Tryz.prog 43 [(29,7774),(64,7774),(31,7775),(33,7775),(35,7775),(37,7775),(38,7775),(41,7775),(43,7775),(57,7775),(63,7775)] [5] 3 := ⟨((.seq (.region [⟨some 3, none, .Z9 (.t 0)⟩, ⟨some 6, none, .mov (.c .Au)⟩]) (.seq (.region [⟨some 11, none, .Ca 0 (.t 3)⟩, ⟨some 12, none, .load false 1 (.t 11)⟩, ⟨some 13, none, .mov (.t 1)⟩, ⟨some 14, none, .LC 4 (.t 12) (.t 13)⟩, ⟨some 15, none, .load true 4 (.t 14)⟩, ⟨some 7, none, .F3 7 36 4 (.c (.agg [(.int .i64 0), (.int .i64 0), (.str (bs [])), .Au]))⟩, ⟨none, none, .store 4 (.t 7) (.t 15)⟩]) (.seq (.region [⟨some 16, none, .slO 16 137 0 (.agg [.Au, (.int .i64 0), (.int .i64 0), (.str (bs [])), (.bool false)]) []⟩, ⟨some 8, none, .mov (.t 16)⟩]) (.seq (.seq (.region [⟨some 17, none, .Ca 0 (.t 7)⟩, ⟨some 18, none, .load false 1 (.t 17)⟩, ⟨some 19, none, .bin .eql .other (.t 18) (.c (.int .i64 1))⟩, ⟨some 20, none, .mov (.t 19)⟩, ⟨some 21, some (20, false), .Ca 0 (.t 7)⟩, ⟨some 22, some (20, false), .load false 1 (.t 21)⟩, ⟨some 23, some (20, false), .bin .eql .other (.t 22) (.c (.int .i64 2))⟩, ⟨some 24, none, .pick (.t 20) (.c (.bool true)) (.t 23)⟩]) (.cond (.t 24) (.seq (.region [⟨some 25, none, .mov (.t 8)⟩, ⟨some 6, none, .mov (.t 25)⟩]) .ret) .skip)) (.seq (.ghost (.region [⟨some 26, none, .mov (.t 8)⟩, ⟨some 28, none, .mov (.t 2)⟩, ⟨some 30, none, .Ca 0 (.t 7)⟩, ⟨some 31, none, .Ij false 1 (.t 30)⟩, ⟨some 32, none, .Ca 1 (.t 7)⟩, ⟨some 33, none, .Ij false 1 (.t 32)⟩, ⟨some 34, none, .Ca 2 (.t 7)⟩, ⟨some 35, none, .Ij false 1 (.t 34)⟩, ⟨some 36, none, .Ca 0 (.t 7)⟩, ⟨some 37, none, .Ij false 1 (.t 36)⟩, ⟨some 38, none, .Vc .eql (.t 37) (.c (.int .i64 4))⟩, ⟨some 27, none, .slO 27 3 0 (.int .i64 0) []⟩, ⟨some 29, none, .QS 29 3 1 8 (.t 27) (.t 28)⟩, ⟨some 39, none, .mov (.t 38)⟩, ⟨some 40, some (39, true), .Ca 3 (.t 7)⟩, ⟨some 41, some (39, true), .Ij false 1 (.t 40)⟩, ⟨some 42, some (39, true), .len false (.t 41)⟩, ⟨some 43, some (39, true), .Vc .eql (.t 42) (.c (.int .i64 1))⟩, ⟨some 44, none, .pick (.t 39) (.t 43) (.c (.bool false))⟩, ⟨some 45, none, .build [.Au, (.int .i64 0), (.int .i64 0), (.str (bs [])), (.bool false)] [(0, (1, (.t 29))), (1, (1, (.t 31))), (2, (1, (.t 33))), (3, (1, (.t 35))), (4, (1, (.t 44)))]⟩, ⟨some 46, none, .slP 1 (.agg [.Au, (.int .i64 0), (.int .i64 0), (.str (bs [])), (.bool false)]) [(0, (.t 45))]⟩, ⟨some 47, none, .append 47 137 5 64 (.t 26) (.t 46)⟩, ⟨some 8, none, .mov (.t 47)⟩])) (.seq (.seq (.region [⟨some 48, none, .Ca 3 (.t 7)⟩, ⟨some 49, none, .load false 1 (.t 48)⟩, ⟨some 50, none, .len false (.t 49)⟩, ⟨some 51, none, .mov (.c (.int .i64 0))⟩]) (.block 0 (.loop (.seq (.region [⟨some 52, none, .bin .lss .other (.t 51) (.t 50)⟩]) (.seq (.cond (.t 52) .skip (.exit 0)) (.seq (.block 1 (.seq (.region [⟨some 53, none, .mov (.t 51)⟩, ⟨some 54, none, .LC 1 (.t 49) (.t 51)⟩, ⟨some 55, none, .load false 1 (.t 54)⟩, ⟨some 9, none, .mov (.t 53)⟩, ⟨some 10, none, .mov (.t 55)⟩]) (.region [⟨some 56, none, .mov (.t 8)⟩, ⟨some 57, none, .Ij true 1 (.t 3)⟩, ⟨some 58, none, .mov (.t 10)⟩, ⟨some 60, none, .mov (.t 2)⟩, ⟨some 62, none, .mov (.t 9)⟩, ⟨some 63, none, .slF 1 (.int .i64 0) [(0, (.t 62))]⟩, ⟨some 59, none, .slO 59 3 0 (.int .i64 0) []⟩, ⟨some 61, none, .append 61 3 1 8 (.t 59) (.t 60)⟩, ⟨some 64, none, .QS 64 3 1 8 (.t 61) (.t 63)⟩, ⟨some 65, none, .call 43 [(.t 57), (.t 58), (.t 64)]⟩, ⟨some 66, none, .append 66 137 5 64 (.t 56) (.t 65)⟩, ⟨some 8, none, .mov (.t 66)⟩]))) (.region [⟨some 67, none, .bin .add .other (.t 51) (.c (.int .i64 1))⟩, ⟨some 51, none, .mov (.t 67)⟩]))))))) (.seq (.region [⟨some 68, none, .mov (.t 8)⟩, ⟨some 6, none, .mov (.t 68)⟩]) .ret))))))), [(.t 6)]), _, Tryz.func43, CO, by kernel_rfl, by kernel_rfl⟩
def Io : Ir Tryz.prog 76 [] [15] 2 := ⟨_, _, Tryz.func76, CO, by kernel_rfl, Az [] Tryz.progTables (by conv => lhs; cbv) (by kernel_rfl)⟩
def Jj : Ir Tryz.prog 77 [] [] 2 := ⟨_, _, Tryz.func77, CO, by kernel_rfl, Az [] Tryz.progTables (by conv => lhs; cbv) (by kernel_rfl)⟩
def B8 : Ir Tryz.prog 44 [(48,7774),(44,90),(18,90),(32,90),(47,7775),(50,7775),(52,7775),(54,7775),(56,7775), (64, 7777), (72, 7777)] [9999, 10,11] 2 := ⟨_, _, Tryz.func44, CO, by kernel_rfl, Az [10010] Tryz.progTables (by conv => lhs; cbv) (by kernel_rfl)⟩
def Iz : Ir Tryz.prog 12 [(33, 7777)] [11,14] 1 := ⟨_, _, Tryz.func12, CO, by kernel_rfl, Az [] Tryz.progTables (by conv => lhs; cbv) (by kernel_rfl)⟩
end Go.Proofs.YteeiaaogmjbcjaaGreat
