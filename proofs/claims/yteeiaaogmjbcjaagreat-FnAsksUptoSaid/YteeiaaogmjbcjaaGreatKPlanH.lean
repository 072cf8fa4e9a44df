/-
 THE TREE OF QUESTIONS FINDS THE FIRST PATTERN THAT HITS: the plain text. Conditions: none.
-/
import Derived.Test.YteeiaaogmjbcjaaGreatKJ39
import Derived.Test.YteeiaaogmjbcjaaGreatKJ43
import Derived.Test.YteeiaaogmjbcjaaGreatKJ09
set_option linter.unusedVariables false
set_option linter.unusedSimpArgs false
namespace Go.Proofs.YteeiaaogmjbcjaaGreat
open Go.RowKit Go.Proofs.YteeiaaogmjbcjaaGreat.Av Go.Proofs.YteeiaaogmjbcjaaGreat.Ml
open Go.Proofs.YteeiaaogmjbcjaaGreat.Av.AVal (av)

def pnC (h : Hd) (m : Nat) : Prop := ((h.kind = 1 ∨ h.kind = 2) ∧ m = 0) ∨ (h.kind = 6 ∧ m = 0 ∧ h.n = 0 ∧ h.s = bs []) ∨ (h.kind = 3 ∧ m = 0 ∧ h.s = bs [] ∧ (-4611686018427387903 ≤ h.n ∧ h.n ≤ 4611686018427387903)) ∨ (h.kind = 4 ∧ h.n = 0 ∧ DO h.s m true = true ∧ m ≤ 1) ∨ (h.kind = 5 ∧ m = 2 ∧ h.n = 0 ∧ h.s = bs [])
inductive PGd : Px → Prop
 | mk (h : Hd) (ks : List Px) (hc : pnC h ks.length) (hk : ∀ k ∈ ks, PGd k) : PGd (.mk h ks)
def dnC (h : Hd) (m : Nat) : Prop := (h.kind = 3 ∨ h.kind = 6 → m = 0) ∧ (h.kind = 5 → m = 2) ∧ (h.kind = 4 → m ≤ 1)
inductive DGd : Px → Prop
 | mk (h : Hd) (ks : List Px) (hc : dnC h ks.length) (hk : ∀ k ∈ ks, DGd k) : DGd (.mk h ks)
theorem TZ : ∀ (p : List Int) (D : Px) (i : Int), Ij D (p ++ [i]) = match Ij D p with
  | some t => t.kids[i.toNat]?
  | none => none
 | [], D, i => by
  rw [List.nil_append, Ij, Ij]
  show _ = D.kids[i.toNat]?
  cases D.kids[i.toNat]? with
  | none => rfl
  | some k => rfl
 | a :: p, D, i => by
  rw [List.cons_append, Ij, Ij]
  cases D.kids[a.toNat]? with
  | none => rfl
  | some k => exact TZ p k i
def hT (D : Px) (t : Tst) : Bool := K9 ⟨0, t.path, t.kind, t.n, t.s, t.has, 0, 0⟩ D
theorem TM {ks : List Px} (D : Px) (p : List Int) (ih : ∀ k ∈ ks, ∀ p d, Ij D p = some d → DGd d → (DX k d).isSome = (BG k p).all (hT D)) : ∀ (i : Nat) (ds : List Px), ks.length = ds.length → (∀ j (h : j < ds.length), Ij D (p ++ [((i + j : Nat) : Int)]) = some ds[j]) → (∀ d ∈ ds, DGd d) → (B1 ks ds).isSome = (A2 ks p i).all (hT D) := by
 induction ks with
 | nil => intro i ds _ _ _; rw [B1, A2]; rfl
 | cons k ks ihk =>
  intro i ds hl hg hd
  cases ds with
  | nil => cases hl
  | cons d ds =>
   have h1 := ih k (by simp) (p ++ [(i : Int)]) d (by have := hg 0 (by simp); simpa using this) (hd d (by simp))
   have h2 := ihk (fun k hk => ih k (by simp [hk])) (i + 1) ds (by simpa using hl) (fun j hj => by
    have := hg (j + 1) (by simpa using hj)
    rw [List.getElem_cons_succ] at this
    rw [← this]
    congr 3
    omega) (fun d h => hd d (by simp [h]))
   rw [B1, A2, List.all_append, ← h1, ← h2]
   cases DX k d with
   | none => rfl
   | some a => cases B1 ks ds <;> rfl
theorem V7 : ∀ q, PGd q → ∀ (D : Px) p d, Ij D p = some d → DGd d → (DX q d).isSome = (BG q p).all (hT D) := Px.ind fun h ks ih hq D p d hg hd => by
 obtain ⟨_, _, hc, hk⟩ := hq
 rw [DX, BG]
 by_cases h12 : h.kind = 1 ∨ h.kind = 2
 ·rw [if_pos h12]
  rcases h12 with h1 | h2
  ·rw [if_pos h1]; rfl
  ·have : ¬ h.kind = 1 := by omega
   rw [if_neg this, if_pos h2]; rfl
 ·rw [if_neg h12, if_neg (fun e => h12 (.inl e)), if_neg (fun e => h12 (.inr e)), List.all_cons]
  have e : hT D ⟨p, h.kind, h.n, h.s, decide (h.kind = 4) && decide (0 < ks.length)⟩ = Qh ⟨0, p, h.kind, h.n, h.s, decide (h.kind = 4) && decide (0 < ks.length), 0, 0⟩ d := by
   unfold hT K9
   rw [show Ij D p = some d from hg]
  rw [e]
  unfold Qh
  dsimp only
  have hdd : dnC d.hd d.kids.length ∧ ∀ k ∈ d.kids, DGd k := by
   obtain ⟨_, _, h1, h2⟩ := hd
   exact ⟨h1, h2⟩
  obtain ⟨⟨d1, d2, d3⟩, dk2⟩ := hdd
  ·obtain ⟨dh, hdh⟩ : ∃ dh, dh = d.hd := ⟨_, rfl⟩
   obtain ⟨dk, hdk⟩ : ∃ dk, dk = d.kids := ⟨_, rfl⟩
   rw [← hdh, ← hdk] at d1 d2 d3 ⊢
   rw [← hdk] at dk2
   by_cases heq : dh.kind = h.kind ∧ dh.n = h.n ∧ dh.s = h.s
   ·obtain ⟨e1, e2, e3⟩ := heq
    by_cases hl : ks.length = dk.length
    ·have hcc : h.kind = dh.kind ∧ h.n = dh.n ∧ h.s = dh.s ∧ ks.length = dk.length := ⟨e1.symm, e2.symm, e3.symm, hl⟩
     rw [if_pos hcc]
     have hx := TM (ks := ks) D p (fun k hk' p d => ih k hk' (hk k hk') D p d) 0 dk hl (fun j hj => by
      rw [TZ, hg]
      simp only [← hdk, Nat.zero_add, Int.toNat_natCast]
      exact List.getElem?_eq_getElem hj) dk2
     rw [hx]
     by_cases h4 : h.kind = 4 <;> simp [e1, e2, e3, hl, h4]
    ·have hcc : ¬ (h.kind = dh.kind ∧ h.n = dh.n ∧ h.s = dh.s ∧ ks.length = dk.length) := fun c => hl c.2.2.2
     rw [if_neg hcc]
     have h4 : h.kind = 4 ∧ ¬ (decide (0 < ks.length) = decide (0 < dk.length)) := by
      unfold pnC at hc
      rw [e1] at d1 d2 d3
      have k4 : h.kind = 4 := by omega
      have a1 := d3 k4
      have a2 : ks.length ≤ 1 := by omega
      refine ⟨k4, fun c => ?_⟩
      have := decide_eq_decide.1 c
      omega
     simp only [e1, e2, e3, h4.1, decide_true, Bool.true_and, Bool.not_true, Bool.false_or]
     cases a1 : decide (0 < ks.length) <;> cases a2 : decide (0 < dk.length) <;> rw [a1, a2] at h4 <;> first | rfl | exact absurd rfl h4.2
   ·have hcc : ¬ (h.kind = dh.kind ∧ h.n = dh.n ∧ h.s = dh.s ∧ ks.length = dk.length) := fun c => heq ⟨c.1.symm, c.2.1.symm, c.2.2.1.symm⟩
    rw [if_neg hcc]
    have : (decide (dh.kind = h.kind) && decide (dh.n = h.n) && decide (dh.s = h.s)) = false := by
     cases hb : (decide (dh.kind = h.kind) && decide (dh.n = h.n) && decide (dh.s = h.s)) with
     | false => rfl
     | true => simp only [Bool.and_eq_true, decide_eq_true_eq] at hb; exact absurd ⟨hb.1.1, hb.1.2, hb.2⟩ heq
    rw [this]; rfl
def Ek (D : Px) : List BU → Int
 | [] => -1
 | r :: rs => if r.AD.all (hT D) = true then r.arm else Ek D rs
def WfT (t : Tst) : Prop := ¬ t.kind = 0 ∧ (¬ t.kind = 4 → t.has = false)
def WfR (rows : List BU) : Prop := ∀ r ∈ rows, ∀ t ∈ r.AD, WfT t
theorem AcX {D : Px} {x t : Tst} (hp : x.path = t.path) (h1 : x.kind = t.kind) (h2 : x.n = t.n) (h3 : x.s = t.s) (h4 : x.has = t.has) : hT D x = hT D t := by
 unfold hT
 rw [hp, h1, h2, h3, h4]
theorem OT {x t : Tst} : D4 x t = true ↔ x.kind = t.kind ∧ x.n = t.n ∧ x.s = t.s ∧ x.has = t.has := by
 unfold D4
 simp only [Bool.and_eq_true, decide_eq_true_eq, beq_iff_eq]
 exact ⟨fun h => ⟨h.1.1.1, h.1.1.2, h.1.2, h.2⟩, fun h => ⟨⟨⟨h.1, h.2.1⟩, h.2.2.1⟩, h.2.2.2⟩⟩
theorem Yg {D : Px} {x t : Tst} (hp : x.path = t.path) (ht : hT D t = true) (wx : WfT x) (wt : WfT t) : hT D x = D4 x t := by
 rw [Bool.eq_iff_iff, OT]
 refine ⟨fun hx => ?_, fun ⟨h1, h2, h3, h4⟩ => (AcX hp h1 h2 h3 h4).trans ht⟩
 unfold hT K9 at ht hx
 dsimp only at ht hx
 rw [hp] at hx
 cases hg : Ij D t.path with
 | none => rw [hg] at ht; cases ht
 | some u =>
  rw [hg] at ht hx
  unfold Qh at ht hx
  simp only [Bool.and_eq_true, decide_eq_true_eq, Bool.or_eq_true, Bool.not_eq_true', decide_eq_false_iff_not, beq_iff_eq] at ht hx
  obtain ⟨⟨⟨a1, a2⟩, a3⟩, a4⟩ := ht
  obtain ⟨⟨⟨b1, b2⟩, b3⟩, b4⟩ := hx
  refine ⟨b1.symm.trans a1, b2.symm.trans a2, b3.symm.trans a3, ?_⟩
  have hk : x.kind = t.kind := b1.symm.trans a1
  by_cases h4 : t.kind = 4
  ·rw [(b4.resolve_left fun c => c (hk.trans h4)), (a4.resolve_left fun c => c h4)]
  ·rw [wt.2 h4, wx.2 (fun c => h4 (hk.symm.trans c))]
theorem LZ {x t : Tst} : Cv x t = true ↔ x.path = t.path := by unfold Cv; rw [decide_eq_true_eq]
theorem QH {D : Px} {t : Tst} (ht : hT D t = true) (wt : WfT t) : ∀ rows, WfR rows → Ek D (B8 rows t) = Ek D rows
 | [], _ => rfl
 | r :: rs, hw => by
  have ih := QH ht wt rs (fun r hr => hw r (List.mem_cons_of_mem _ hr))
  have hr := hw r (by simp)
  unfold B8 at ih ⊢
  by_cases hc : r.AD.any (Dd t) = true
  ·rw [List.filter_cons_of_neg (by simp [hc]), ih, Ek]
   obtain ⟨x, hx, hcx⟩ := List.any_eq_true.1 hc
   unfold Dd at hcx
   simp only [Bool.and_eq_true, Bool.not_eq_true'] at hcx
   have h1 := Yg (LZ.1 hcx.1) ht (hr x hx) wt
   rw [hcx.2] at h1
   rw [if_neg]
   intro ha
   have := List.all_eq_true.1 ha x hx
   rw [h1] at this
   cases this
  ·have hc' : r.AD.any (Dd t) = false := by simpa using hc
   rw [List.filter_cons_of_pos (by simp [hc']), List.map_cons, Ek, Ek, ih]
   have he : (r.AD.filter fun x => !Cv x t).all (hT D) = r.AD.all (hT D) := by
    rw [Bool.eq_iff_iff, List.all_eq_true, List.all_eq_true]
    refine ⟨fun h x hx => ?_, fun h x hx => h x (List.mem_filter.1 hx).1⟩
    by_cases hp : Cv x t = true
    ·have h1 := Yg (LZ.1 hp) ht (hr x hx) wt
     rw [h1]
     have h2 := List.any_eq_false.1 hc' x hx
     unfold Dd at h2
     simpa [hp] using h2
    ·exact h x (List.mem_filter.2 ⟨hx, by simpa using hp⟩)
   dsimp only
   rw [he]
theorem Uj {D : Px} {t : Tst} (ht : hT D t = false) : ∀ rows, Ek D (noR rows t) = Ek D rows
 | [] => rfl
 | r :: rs => by
  have ih := Uj ht rs
  unfold noR at ih ⊢
  by_cases hc : r.AD.any (Dh t) = true
  ·rw [List.filter_cons_of_neg (by simp [hc]), ih, Ek]
   obtain ⟨x, hx, hcx⟩ := List.any_eq_true.1 hc
   unfold Dh at hcx
   rw [Bool.and_eq_true, OT] at hcx
   have h1 := AcX (D := D) (LZ.1 hcx.1) hcx.2.1 hcx.2.2.1 hcx.2.2.2.1 hcx.2.2.2.2
   rw [if_neg]
   intro ha
   have := List.all_eq_true.1 ha x hx
   rw [h1, ht] at this
   cases this
  ·have hc' : r.AD.any (Dh t) = false := by simpa using hc
   rw [List.filter_cons_of_pos (by simp [hc']), Ek, Ek, ih]
theorem Ac6 {rows : List BU} (h : WfR rows) (t : Tst) : WfR (B8 rows t) := fun r hr x hx => by
 unfold B8 at hr
 obtain ⟨r', hr', rfl⟩ := List.mem_map.1 hr
 exact h r' (List.mem_filter.1 hr').1 x (List.mem_filter.1 hx).1
theorem AdE {rows : List BU} (h : WfR rows) (t : Tst) : WfR (noR rows t) := fun r hr => h r (List.mem_filter.1 hr).1
theorem ND (D : Px) (L : List Ask) : ∀ (f base : Nat) (rows : List BU), (∀ i (h : i < (A9 f base rows).length), L[base + i]? = some (A9 f base rows)[i]) → wtR rows < f → base + (A9 f base rows).length ≤ 400 → WfR rows → ∀ g, (A9 f base rows).length ≤ g → LW L D g base = Ek D rows
 | 0, base, rows, _, hw, _, _, _, _ => by omega
 | f + 1, base, rows, hL, hw, hb, hwf, g, hg => by
  have hb0 : ¬ 400 < base := by omega
  rw [A9, if_neg hb0] at hg hb
  have hL : ∀ i (h : i < (C8 (A9 f) base rows).length), L[base + i]? = some (C8 (A9 f) base rows)[i] := fun i h => by
   have h2 : A9 (f + 1) base rows = C8 (A9 f) base rows := by rw [A9, if_neg hb0]
   have := hL i (by rw [h2]; exact h)
   rw [this]
   simp only [h2]
  have AA : ∀ (a : Ask), L[base]? = some a → L.getD base default = a := fun a h => by rw [List.getD_eq_getElem?_getD, h]; rfl
  cases rows with
  | nil =>
   rw [C8] at hg hL
   have h0 := AA _ (hL 0 (by simp))
   cases g with
   | zero => rw [LW, h0]; rfl
   | succ g => rw [LW, h0]; rfl
  | cons r rs =>
   rw [C8] at hg hL hb
   cases ht : r.AD with
   | nil =>
    rw [ht, Fo] at hg hL
    have h0 := AA _ (hL 0 (by simp))
    have he : Ek D (r :: rs) = r.arm := by rw [Ek, ht]; rfl
    rw [he]
    cases g with
    | zero => rw [LW, h0]; rfl
    | succ g => rw [LW, h0]; rfl
   | cons t ts =>
    rw [ht, Fo] at hg hL hb
    have h1 := Ro (rs := rs) ht
    have h2 := WL (rs := rs) ht
    obtain ⟨Y, hY⟩ : ∃ Y, Y = A9 f (base + 1) (B8 (r :: rs) t) := ⟨_, rfl⟩
    obtain ⟨M, hM⟩ : ∃ M, M = A9 f (base + 1 + Y.length) (noR (r :: rs) t) := ⟨_, rfl⟩
    rw [← hY, ← hM] at hg hb
    simp only [← hY] at hL
    simp only [← hM] at hL
    simp only [List.length_cons, List.length_append] at hg hb
    have h0 := AA _ (hL 0 (by simp))
    have wt : WfT t := hwf r (by simp) t (by rw [ht]; simp)
    have hLY : ∀ i (h : i < Y.length), L[base + 1 + i]? = some Y[i] := fun i h => by
     have := hL (i + 1) (by simp; omega)
     rw [show base + 1 + i = base + (i + 1) by omega, this]
     rw [List.getElem_cons_succ, List.getElem_append_left h]
    have hLM : ∀ i (h : i < M.length), L[base + 1 + Y.length + i]? = some M[i] := fun i h => by
     have := hL (Y.length + i + 1) (by simp; omega)
     rw [show base + 1 + Y.length + i = base + (Y.length + i + 1) by omega, this]
     rw [List.getElem_cons_succ, List.getElem_append_right (by omega)]
     simp
    cases g with
    | zero => omega
    | succ g =>
     rw [LW, h0]
     simp only [List.getElem_cons_zero]
     rw [if_neg wt.1]
     have hp : K9 ⟨0, t.path, t.kind, t.n, t.s, t.has, (base : Int) + 1, (base : Int) + 1 + (Y.length : Int)⟩ D = hT D t := rfl
     rw [hp]
     cases hh : hT D t with
     | true =>
      simp only [if_true]
      rw [show ((base : Int) + 1).toNat = base + 1 by omega]
      subst hY
      rw [ND D L f (base + 1) _ hLY (by omega) (by omega) (Ac6 hwf t) g (by omega)]
      exact QH hh wt _ hwf
     | false =>
      simp only [Bool.false_eq_true, if_false]
      rw [show ((base : Int) + 1 + (Y.length : Int)).toNat = base + 1 + Y.length by omega]
      subst hM
      rw [ND D L f (base + 1 + Y.length) _ hLM (by omega) (by omega) (AdE hwf t) g (by omega)]
      exact Uj hh _
end Go.Proofs.YteeiaaogmjbcjaaGreat
