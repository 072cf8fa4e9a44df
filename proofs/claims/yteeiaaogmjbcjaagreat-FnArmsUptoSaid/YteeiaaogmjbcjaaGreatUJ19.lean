/-
 THE TREE OF QUESTIONS OF PATTERNS, told plainly. Conditions: none.
-/
import Derived.Test.YteeiaaogmjbcjaaGreatUJ17
import Derived.Test.YteeiaaogmjbcjaaGreatUJ09
import Derived.Test.YteeiaaogmjbcjaaGreatUJ18
import Derived.Test.YteeiaaogmjbcjaaGreatUJ16
set_option linter.unusedVariables false
namespace Go.Proofs.YteeiaaogmjbcjaaGreat
open Go.RowKit Go.Proofs.YteeiaaogmjbcjaaGreat.Av Go.Proofs.YteeiaaogmjbcjaaGreat.Ml
open Go.Proofs.YteeiaaogmjbcjaaGreat.Av.AVal (av)

structure Tst where
 path : List Int
 kind : Int
 n : Int
 s : ByteArray
 has : Bool
structure BI where
 AA : List Tst
 arm : Int
mutual
def Bu : Px → List Int → List Tst
 | .mk h ks, p => if h.kind = 1 ∨ h.kind = 2 then [] else ⟨p, h.kind, h.n, h.s, decide (h.kind = 4) && decide (0 < ks.length)⟩ :: AR ks p 0
def AR : List Px → List Int → Nat → List Tst
 | [], _, _ => []
 | k :: ks, p, i => Bu k (p ++ [(i : Int)]) ++ AR ks p (i + 1)
end
def Cf (x t : Tst) : Bool := decide (x.path = t.path)
def Eb (x t : Tst) : Bool := decide (x.kind = t.kind) && decide (x.n = t.n) && decide (x.s = t.s) && (x.has == t.has)
def CR (t x : Tst) : Bool := Cf x t && !Eb x t
def CV (t x : Tst) : Bool := Cf x t && Eb x t
def BP (rows : List BI) (t : Tst) : List BI := (rows.filter fun r => !r.AA.any (CR t)).map fun r => ⟨r.AA.filter fun x => !Cf x t, r.arm⟩
def noR (rows : List BI) (t : Tst) : List BI := rows.filter fun r => !r.AA.any (CV t)
def DZ (go : Nat → List BI → List Ask) (base : Nat) (rows : List BI) (arm : Int) : List Tst → List Ask
 | [] => [⟨arm, [], 0, 0, bs [], false, 0, 0⟩]
 | t :: _ => ⟨0, t.path, t.kind, t.n, t.s, t.has, base + 1, base + 1 + (go (base + 1) (BP rows t)).length⟩ :: (go (base + 1) (BP rows t) ++ go (base + 1 + (go (base + 1) (BP rows t)).length) (noR rows t))
def CE (go : Nat → List BI → List Ask) (base : Nat) : List BI → List Ask
 | [] => [⟨-1, [], 0, 0, bs [], false, 0, 0⟩]
 | r :: rs => DZ go base (r :: rs) r.arm r.AA
def A9 : Nat → Nat → List BI → List Ask
 | 0, _, _ => []
 | f + 1, base, rows => if 400 < base then [] else CE (A9 f) base rows
def wtR (rows : List BI) : Nat := (rows.map fun r => 1 + r.AA.length).sum
theorem LM (t : Tst) : Eb t t = true := by simp [Eb]
theorem KO (p : BI → Bool) (g : BI → BI) (hg : ∀ r, (g r).AA.length ≤ r.AA.length) : ∀ rows, wtR ((rows.filter p).map g) ≤ wtR rows
 | [] => by simp [wtR]
 | r :: rs => by
  have ih := KO p g hg rs
  have := hg r
  unfold wtR at *
  by_cases hp : p r = true
  ·rw [List.filter_cons_of_pos hp]
   simp only [List.map_cons, List.sum_cons]
   omega
  ·rw [List.filter_cons_of_neg (by simpa using hp)]
   simp only [List.map_cons, List.sum_cons]
   omega
theorem P9 {r : BI} {rs : List BI} {t : Tst} {ts : List Tst} (h : r.AA = t :: ts) : wtR (BP (r :: rs) t) < wtR (r :: rs) := by
 have h1 := KO (fun r => !r.AA.any (CR t)) (fun r => ⟨r.AA.filter fun x => !Cf x t, r.arm⟩) (fun r => List.length_filter_le _ _) rs
 have h2 : (r.AA.filter fun x => !Cf x t).length ≤ ts.length := by
  rw [h, List.filter_cons_of_neg (by simp [Cf])]
  exact List.length_filter_le _ _
 have h3 : r.AA.length = ts.length + 1 := by rw [h]; rfl
 unfold BP
 unfold wtR at *
 by_cases hp : (!r.AA.any (CR t)) = true
 ·rw [List.filter_cons_of_pos (p := fun r : BI => !r.AA.any (CR t)) hp]
  simp only [List.map_cons, List.sum_cons]
  omega
 ·rw [List.filter_cons_of_neg (p := fun r : BI => !r.AA.any (CR t)) (by simpa using hp)]
  simp only [List.map_cons, List.sum_cons]
  omega
theorem YH {r : BI} {rs : List BI} {t : Tst} {ts : List Tst} (h : r.AA = t :: ts) : wtR (noR (r :: rs) t) < wtR (r :: rs) := by
 have h1 := KO (fun r => !r.AA.any (CV t)) id (fun r => Nat.le_refl _) rs
 rw [List.map_id] at h1
 unfold noR
 rw [List.filter_cons_of_neg (by simp [h, CV, LM, Cf])]
 have : wtR (r :: rs) = 1 + r.AA.length + wtR rs := by simp [wtR]
 omega
theorem EZ : ∀ (f base : Nat) (rows : List BI), base + (A9 f base rows).length ≤ max base 401
 | 0, base, rows => by rw [A9]; simp; omega
 | f + 1, base, rows => by
  rw [A9]
  split
  ·simp; omega
  ·cases rows with
   | nil => rw [CE]; simp; omega
   | cons r rs =>
    rw [CE]
    cases ht : r.AA with
    | nil => rw [DZ]; simp; omega
    | cons t ts =>
     have h1 := EZ f (base + 1) (BP (r :: rs) t)
     have h2 := EZ f (base + 1 + (A9 f (base + 1) (BP (r :: rs) t)).length) (noR (r :: rs) t)
     rw [DZ]
     simp only [List.length_cons, List.length_append]
     omega
theorem left_eq {r : BI} {t : Tst} (h : r.AA.any (CR t) = false) : (r.AA.filter fun x => !CV t x) = r.AA.filter fun x => !Cf x t := by
 refine List.filter_congr fun x hx => ?_
 have := (List.any_eq_false.1 h) x hx
 unfold CR at this
 unfold CV
 cases h1 : Cf x t <;> cases h2 : Eb x t <;> rw [h1, h2] at this <;> first | rfl | (exact absurd rfl this)
theorem ZH {r : BI} {t : Tst} : decide ((r.AA.filter fun x => !CV t x).length = r.AA.length) = !r.AA.any (CV t) := by
 rw [Bool.eq_iff_iff]
 simp
def A8 : Nat → List Px → List BI
 | _, [] => []
 | i, q :: l => ⟨Bu q [], (i : Int)⟩ :: A8 (i + 1) l
theorem JB : ∀ (i : Nat) (l : List Px) (q : Px), A8 i (l ++ [q]) = A8 i l ++ [⟨Bu q [], ((i + l.length : Nat) : Int)⟩]
 | i, [], q => by simp [A8]
 | i, a :: l, q => by
  rw [List.cons_append, A8, A8, JB, List.cons_append, List.length_cons, show i + 1 + l.length = i + (l.length + 1) by omega]
theorem G8 : ∀ (ks : List Px) (k : Px) (p : List Int) (i : Nat), AR (ks ++ [k]) p i = AR ks p i ++ Bu k (p ++ [((i + ks.length : Nat) : Int)])
 | [], k, p, i => by simp [AR]
 | a :: ks, k, p, i => by
  rw [List.cons_append, AR, AR, G8 ks k p (i + 1), List.append_assoc, List.length_cons, show i + 1 + ks.length = i + (ks.length + 1) by omega]
theorem HX {ks : List Px} (h : ∀ k ∈ ks, ∀ p, (Bu k p).length ≤ pxN k) : ∀ p i, (AR ks p i).length ≤ Bg ks := by
 induction ks with
 | nil => intro p i; rw [AR]; simp
 | cons k ks ih =>
  intro p i
  rw [AR, Bg, List.length_append]
  have h1 := h k (by simp) (p ++ [(i : Int)])
  have h2 := ih (fun k hk => h k (by simp [hk])) p (i + 1)
  omega
theorem FG : ∀ q p, (Bu q p).length ≤ pxN q := Px.ind fun n ks ih p => by
 rw [Bu, pxN]
 split
 ·simp
 ·have := HX ih p 0
  rw [List.length_cons]
  omega
def Dd (l : List Pat) : Option (List Ask) :=
 if l = [] ∨ (l.any fun q => !Dy q.nodes) = true then none
 else
  let rows := A8 0 (l.map fun q => B6 q.nodes 0)
  let a := A9 (wtR rows + 1) 0 rows
  if 400 < a.length then none else some a
end Go.Proofs.YteeiaaogmjbcjaaGreat
set_option linter.unusedVariables false
set_option linter.unusedSimpArgs false
namespace Go.Proofs.YteeiaaogmjbcjaaGreat
open Go.RowKit Go.Proofs.YteeiaaogmjbcjaaGreat.Av Go.Proofs.YteeiaaogmjbcjaaGreat.Ml
open Go.Proofs.YteeiaaogmjbcjaaGreat.Av.AVal (av)

def pnC (h : Hd) (m : Nat) : Prop := ((h.kind = 1 ∨ h.kind = 2) ∧ m = 0) ∨ (h.kind = 6 ∧ m = 0 ∧ h.n = 0 ∧ h.s = bs []) ∨ (h.kind = 3 ∧ m = 0 ∧ h.s = bs [] ∧ (-4611686018427387903 ≤ h.n ∧ h.n ≤ 4611686018427387903)) ∨ (h.kind = 4 ∧ h.n = 0 ∧ El h.s m true = true ∧ m ≤ 1) ∨ (h.kind = 5 ∧ m = 2 ∧ h.n = 0 ∧ h.s = bs [])
inductive PGd : Px → Prop
 | mk (h : Hd) (ks : List Px) (hc : pnC h ks.length) (hk : ∀ k ∈ ks, PGd k) : PGd (.mk h ks)
def dnC (h : Hd) (m : Nat) : Prop := (h.kind = 3 ∨ h.kind = 6 → m = 0) ∧ (h.kind = 5 → m = 2) ∧ (h.kind = 4 → m ≤ 1)
inductive DGd : Px → Prop
 | mk (h : Hd) (ks : List Px) (hc : dnC h ks.length) (hk : ∀ k ∈ ks, DGd k) : DGd (.mk h ks)
def hT (D : Px) (t : Tst) : Bool := Acq ⟨0, t.path, t.kind, t.n, t.s, t.has, 0, 0⟩ D
def WfT (t : Tst) : Prop := ¬ t.kind = 0 ∧ (¬ t.kind = 4 → t.has = false)
def WfR (rows : List BI) : Prop := ∀ r ∈ rows, ∀ t ∈ r.AA, WfT t
theorem YM {rows : List BI} (h : WfR rows) (t : Tst) : WfR (BP rows t) := fun r hr x hx => by
 unfold BP at hr
 obtain ⟨r', hr', rfl⟩ := List.mem_map.1 hr
 exact h r' (List.mem_filter.1 hr').1 x (List.mem_filter.1 hx).1
theorem Ace {rows : List BI} (h : WfR rows) (t : Tst) : WfR (noR rows t) := fun r hr => h r (List.mem_filter.1 hr).1
end Go.Proofs.YteeiaaogmjbcjaaGreat
set_option linter.unusedVariables false
set_option linter.unusedSimpArgs false
namespace Go.Proofs.YteeiaaogmjbcjaaGreat
open Go.RowKit Go.Proofs.YteeiaaogmjbcjaaGreat.Av Go.Proofs.YteeiaaogmjbcjaaGreat.Ml
open Go.Proofs.YteeiaaogmjbcjaaGreat.Av.AVal (av)

theorem Ur {s : ByteArray} {m : Nat} {p : Bool} (h : El s m p = true) : El s m true = true ∧ m ≤ 1 := by
 unfold El at h ⊢
 split at h
 ·rename_i c; rw [if_pos c]; exact ⟨h, by have := of_decide_eq_true h; omega⟩
 ·rename_i c
  rw [if_neg c]
  split at h
  ·rename_i c2
   rw [if_pos c2]
   simp only [Bool.and_eq_true, decide_eq_true_eq] at h ⊢
   exact ⟨⟨h.1, trivial⟩, by omega⟩
  ·rename_i c2
   rw [if_neg c2]
   simp only [Bool.and_eq_true, decide_eq_true_eq] at h ⊢
   exact ⟨h, by omega⟩
theorem AaY {l : List A0} {n : A0} (h : CM l n = true) : pnC ⟨n.kind, n.n, n.s⟩ n.kids.length := by
 unfold CM at h
 unfold pnC
 dsimp only
 split at h
 ·rename_i c
  simp only [Bool.and_eq_true, decide_eq_true_eq] at h
  rcases c with c | c
  ·exact .inl ⟨.inl c, h.1.1⟩
  ·exact .inr (.inl ⟨c, h.1.1, h.1.2, h.2⟩)
 ·split at h
  ·rename_i c
   simp only [Bool.and_eq_true, decide_eq_true_eq] at h
   exact .inl ⟨.inr c, h.1.1⟩
  ·split at h
   ·rename_i c
    simp only [Bool.and_eq_true, decide_eq_true_eq] at h
    exact .inr (.inr (.inl ⟨c, h.1.1, h.1.2, h.2⟩))
   ·split at h
    ·rename_i c
     simp only [Bool.and_eq_true, decide_eq_true_eq] at h
     have := Ur h.2
     exact .inr (.inr (.inr (.inl ⟨c, h.1, this.1, this.2⟩)))
    ·split at h
     ·rename_i c
      simp only [Bool.and_eq_true, decide_eq_true_eq] at h
      exact .inr (.inr (.inr (.inr ⟨c, h.1.1, h.1.2, h.2⟩)))
     ·cases h
theorem Aa3 {q : List A0} (h : Dy q = true) (i : Nat) (hi : i < q.length) : CM q (q.getD i default) = true := by
 have h1 := (I2 h).2.2 i hi
 unfold Fi at h1
 rw [Bool.and_eq_true] at h1
 exact h1.1
theorem Ph {q : List A0} (h : Dy q = true) : ∀ f i, i < q.length → q.length - i ≤ f → PGd (Dc (phd q) (BK q) f i)
 | 0, i, hi, hf => by omega
 | f + 1, i, hi, hf => by
  rw [Dc]
  refine .mk _ _ ?_ fun k hk => ?_
  ·rw [List.length_map]
   exact AaY (Aa3 h i hi)
  ·obtain ⟨j, hj, rfl⟩ := List.mem_map.1 hk
   have := IZ (I2 h).2.1 hi hj
   exact Ph h f j.toNat (by omega) (by omega)
def Abt (t : Tst) : Prop := WfT t ∧ (∀ k ∈ t.path, K8 k = false) ∧ O9 ⟨0, t.path, t.kind, t.n, t.s, t.has, 0, 0⟩ = true
theorem Q9 {ks : List Px} (ih : ∀ k ∈ ks, ∀ p, (∀ k ∈ p, K8 k = false) → ∀ t ∈ Bu k p, Abt t) : ∀ (p : List Int) (i : Nat), i + ks.length ≤ 2 → (∀ k ∈ p, K8 k = false) → ∀ t ∈ AR ks p i, Abt t := by
 induction ks with
 | nil => intro p i _ _ t ht; rw [AR] at ht; cases ht
 | cons k ks ihk =>
  intro p i hi hp t ht
  rw [AR, List.mem_append] at ht
  rw [List.length_cons] at hi
  rcases ht with ht | ht
  ·refine ih k (by simp) _ (fun x hx => ?_) t ht
   rcases List.mem_append.1 hx with hx | hx
   ·exact hp x hx
   ·rw [List.mem_singleton.1 hx]
    unfold K8
    have : (i : Int) = 0 ∨ (i : Int) = 1 := by omega
    rcases this with e | e <;> rw [e] <;> rfl
  ·exact ihk (fun k hk => ih k (by simp [hk])) p (i + 1) (by omega) hp t ht
theorem XG : ∀ q, PGd q → ∀ p, (∀ k ∈ p, K8 k = false) → ∀ t ∈ Bu q p, Abt t := Px.ind fun h ks ih hq p hp t ht => by
 obtain ⟨_, _, hc, hk⟩ := hq
 rw [Bu] at ht
 split at ht
 ·cases ht
 ·rename_i h12
  have hm : ks.length ≤ 2 := by unfold pnC at hc; omega
  rcases List.mem_cons.1 ht with rfl | ht
  ·refine ⟨⟨?_, fun h4 => ?_⟩, hp, ?_⟩
   ·unfold pnC at hc; dsimp only; omega
   ·dsimp only at h4 ⊢; simp [h4]
   ·unfold O9
    dsimp only
    unfold pnC at hc
    rcases hc with hc | hc | hc | hc | hc
    ·exact absurd hc.1 h12
    ·have : ¬ h.kind = 3 := by omega
     rw [if_neg this, if_pos (.inl hc.1), hc.2.2.1, hc.2.2.2]; simp [hc.1]
    ·rw [if_pos hc.1, hc.2.2.1]; simp [hc.1, hc.2.2.2]
    ·have a1 : ¬ h.kind = 3 := by omega
     have a2 : ¬ (h.kind = 6 ∨ h.kind = 5) := by omega
     rw [if_neg a1, if_neg a2, if_pos hc.1, hc.2.1]
     have e : (if (decide (h.kind = 4) && decide (0 < ks.length)) = true then (1 : Int) else 0) = ks.length := by
      simp only [hc.1, decide_true, Bool.true_and, decide_eq_true_eq]
      split <;> omega
     rw [e, hc.2.2.1]; rfl
    ·have a1 : ¬ h.kind = 3 := by omega
     rw [if_neg a1, if_pos (.inr hc.1), hc.2.2.1, hc.2.2.2]; simp [hc.1]
  ·exact Q9 (fun k hk' p hp t ht => ih k hk' (hk k hk') p hp t ht) p 0 (by omega) hp t ht
def YG (rows : List BI) : Prop := ∀ r ∈ rows, -1 ≤ r.arm ∧ ∀ t ∈ r.AA, Abt t
theorem Aag {rows : List BI} (h : YG rows) (t : Tst) : YG (BP rows t) := fun r hr => by
 unfold BP at hr
 obtain ⟨r', hr', rfl⟩ := List.mem_map.1 hr
 have := h r' (List.mem_filter.1 hr').1
 exact ⟨this.1, fun x hx => this.2 x (List.mem_filter.1 hx).1⟩
theorem Abl {rows : List BI} (h : YG rows) (t : Tst) : YG (noR rows t) := fun r hr => h r (List.mem_filter.1 hr).1
theorem Xl {a : Ask} {i n n' : Int} (h : Hk a i n = true) (hn : n ≤ n') : Hk a i n' = true := by
 unfold Hk at h ⊢
 split at h
 ·rename_i c; rw [if_pos c]; exact h
 ·rename_i c
  rw [if_neg c]
  simp only [Bool.and_eq_true, decide_eq_true_eq] at h ⊢
  refine ⟨⟨⟨h.1.1.1, h.1.1.2⟩, ⟨h.1.2.1, by omega⟩⟩, ⟨h.2.1, by omega⟩⟩
theorem Mz {f base : Nat} {rows : List BI} (hw : wtR rows < f) (hb : base ≤ 400) : 0 < (A9 f base rows).length := by
 cases f with
 | zero => omega
 | succ f =>
  rw [A9, if_neg (by omega)]
  cases rows with
  | nil => rw [CE]; simp
  | cons r rs =>
   rw [CE]
   cases r.AA with
   | nil => rw [DZ]; simp
   | cons t ts => rw [DZ]; simp
theorem Sj (arm : Int) (i n : Int) (h : -1 ≤ arm) : Hk ⟨arm, [], 0, 0, bs [], false, 0, 0⟩ i n = true := by
 unfold Hk
 simp [h]
def GA (lo hi : Int) (l : List Ask) : Prop := ∀ i (h : i < l.length), Hk l[i] (lo + i) hi = true
theorem MB : ∀ (f base : Nat) (rows : List BI), wtR rows < f → base + (A9 f base rows).length ≤ 400 → YG rows → GA base ((base : Int) + (A9 f base rows).length) (A9 f base rows)
 | 0, base, rows, hw, _, _ => by omega
 | f + 1, base, rows, hw, hb, ha => by
  have hb0 : ¬ 400 < base := by omega
  have h2 : A9 (f + 1) base rows = CE (A9 f) base rows := by rw [A9, if_neg hb0]
  rw [h2] at hb ⊢
  cases rows with
  | nil =>
   rw [CE]
   intro i h
   have : i = 0 := by simpa using h
   subst this
   exact Sj _ _ _ (by omega)
  | cons r rs =>
   rw [CE] at hb ⊢
   have hr := ha r (by simp)
   cases ht : r.AA with
   | nil =>
    rw [DZ]
    intro i h
    have : i = 0 := by simpa using h
    subst this
    exact Sj _ _ _ hr.1
   | cons t ts =>
    rw [ht, DZ] at hb
    rw [DZ]
    have h1 := P9 (rs := rs) ht
    have h3 := YH (rs := rs) ht
    have hyb := Mz (base := base + 1) (show wtR (BP (r :: rs) t) < f by omega)
    have ihY := MB f (base + 1) (BP (r :: rs) t) (by omega)
    obtain ⟨Y, hY⟩ : ∃ Y, Y = A9 f (base + 1) (BP (r :: rs) t) := ⟨_, rfl⟩
    have hnb := Mz (base := base + 1 + Y.length) (show wtR (noR (r :: rs) t) < f by omega)
    have ihN := MB f (base + 1 + Y.length) (noR (r :: rs) t) (by omega)
    rw [← hY] at hb ihY hyb ⊢
    obtain ⟨M, hM⟩ : ∃ M, M = A9 f (base + 1 + Y.length) (noR (r :: rs) t) := ⟨_, rfl⟩
    rw [← hM] at hb ihN hnb ⊢
    simp only [List.length_cons, List.length_append] at hb
    rw [List.length_cons, List.length_append]
    intro i h
    cases i with
    | zero =>
     rw [List.getElem_cons_zero]
     have wt := hr.2 t (by rw [ht]; simp)
     unfold Hk
     dsimp only
     rw [if_neg wt.1.1]
     have hk : O9 ⟨0, t.path, t.kind, t.n, t.s, t.has, (base : Int) + 1, (base : Int) + 1 + Y.length⟩ = true := wt.2.2
     have hp : t.path.any K8 = false := List.any_eq_false.2 fun k hk => by rw [wt.2.1 k hk]; decide
     rw [hk, hp]
     simp only [Bool.not_false, Bool.and_eq_true, decide_eq_true_eq, true_and]
     omega
    | succ i =>
     rw [List.getElem_cons_succ]
     rw [List.length_cons, List.length_append] at h
     by_cases hi : i < Y.length
     ·rw [List.getElem_append_left hi]
      have := ihY (by omega) (Aag ha t) i hi
      have e : ((base : Int) + ((i + 1 : Nat) : Int)) = ((base + 1 : Nat) : Int) + (i : Int) := by omega
      rw [e]
      exact Xl this (by omega)
     ·rw [List.getElem_append_right (by omega)]
      have := ihN (by omega) (Abl ha t) (i - Y.length) (by omega)
      have e : ((base : Int) + ((i + 1 : Nat) : Int)) = ((base + 1 + Y.length : Nat) : Int) + ((i - Y.length : Nat) : Int) := by omega
      rw [e]
      exact Xl this (by omega)
theorem KT : ∀ (i : Nat) (l : List Px), (∀ q ∈ l, PGd q) → YG (A8 i l)
 | i, [], _ => fun r hr => by rw [A8] at hr; cases hr
 | i, q :: l, h => fun r hr => by
  rw [A8] at hr
  rcases List.mem_cons.1 hr with rfl | hr
  ·exact ⟨by dsimp only; omega, XG q (h q (by simp)) [] (fun k hk => by cases hk)⟩
  ·exact KT (i + 1) l (fun q hq => h q (List.mem_cons_of_mem _ hq)) r hr
theorem PQ {l : List Pat} {a : List Ask} (h : Dd l = some a) : (∀ q ∈ l, Dy q.nodes = true) ∧ l ≠ [] ∧ a = A9 (wtR (A8 0 (l.map fun q => B6 q.nodes 0)) + 1) 0 (A8 0 (l.map fun q => B6 q.nodes 0)) ∧ a.length ≤ 400 := by
 unfold Dd at h
 split at h
 ·cases h
 ·rename_i c
  dsimp only at h
  split at h
  ·cases h
  ·rename_i c2
   cases h
   refine ⟨fun q hq => ?_, fun e => c (.inl e), rfl, by omega⟩
   cases hb : Dy q.nodes with
   | true => rfl
   | false => exact absurd (.inr (List.any_eq_true.2 ⟨q, hq, by rw [hb]; rfl⟩)) c
theorem Ry {l : List Pat} (h : ∀ q ∈ l, Dy q.nodes = true) : ∀ t ∈ l.map fun q => B6 q.nodes 0, PGd t := fun t ht => by
 obtain ⟨q, hq, rfl⟩ := List.mem_map.1 ht
 have := I2 (h q hq)
 exact Ph (h q hq) _ 0 (by omega) (by omega)
theorem Hj {l : List Pat} {a : List Ask} (h : Dd l = some a) : E4 a = true := by
 obtain ⟨h1, h2, h3, h4⟩ := PQ h
 have ha := KT 0 _ (Ry h1)
 have hp := Mz (f := wtR (A8 0 (l.map fun q => B6 q.nodes 0)) + 1) (base := 0) (rows := A8 0 (l.map fun q => B6 q.nodes 0)) (by omega) (by omega)
 have hk := MB (wtR (A8 0 (l.map fun q => B6 q.nodes 0)) + 1) 0 _ (by omega) (by rw [← h3]; omega) ha
 rw [← h3] at hp hk
 rw [PS fun k hk' => by have := hk k hk'; simpa using this]
 simp only [Bool.and_eq_true, decide_eq_true_eq]
 omega
end Go.Proofs.YteeiaaogmjbcjaaGreat
