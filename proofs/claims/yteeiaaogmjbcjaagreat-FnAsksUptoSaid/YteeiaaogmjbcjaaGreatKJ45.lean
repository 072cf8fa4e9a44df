/-
 THE TREE OF QUESTIONS OF RIGHT PATTERNS IS RIGHT AND FINDS THE FIRST THAT HITS: the plain text. Conditions: none.
-/
import Derived.Test.YteeiaaogmjbcjaaGreatKPlanH
import Derived.Test.YteeiaaogmjbcjaaGreatKJ37
import Derived.Test.YteeiaaogmjbcjaaGreatKJ14
import Derived.Test.YteeiaaogmjbcjaaGreatKPlanD
import Derived.Test.YteeiaaogmjbcjaaGreatProg
import Derived.Test.YteeiaaogmjbcjaaGreatKAvDraw
set_option linter.unusedVariables false
set_option linter.unusedSimpArgs false
namespace Go.Proofs.YteeiaaogmjbcjaaGreat
open Go.RowKit Go.Proofs.YteeiaaogmjbcjaaGreat.Av Go.Proofs.YteeiaaogmjbcjaaGreat.Ml
open Go.Proofs.YteeiaaogmjbcjaaGreat.Av.AVal (av)

theorem Nw {s : ByteArray} {m : Nat} {p : Bool} (h : DO s m p = true) : DO s m true = true ∧ m ≤ 1 := by
 unfold DO at h ⊢
 split at h
 ·rename_i c; rw [if_pos c]; exact ⟨h, by have := of_decide_eq_true h; omega⟩
 ·rename_i c
  rw [if_neg c]
  split at h
  ·rename_i c2
   rw [if_pos c2]
   simp only [Bool.and_eq_true, decide_eq_true_eq] at h ⊢
   exact ⟨⟨h.1, trivial⟩, by omega⟩
  ·rename_i c2
   rw [if_neg c2]
   simp only [Bool.and_eq_true, decide_eq_true_eq] at h ⊢
   exact ⟨h, by omega⟩
theorem Acf {l : List AU} {n : AU} (h : Cy l n = true) : pnC ⟨n.kind, n.n, n.s⟩ n.kids.length := by
 unfold Cy at h
 unfold pnC
 dsimp only
 split at h
 ·rename_i c
  simp only [Bool.and_eq_true, decide_eq_true_eq] at h
  rcases c with c | c
  ·exact .inl ⟨.inl c, h.1.1⟩
  ·exact .inr (.inl ⟨c, h.1.1, h.1.2, h.2⟩)
 ·split at h
  ·rename_i c
   simp only [Bool.and_eq_true, decide_eq_true_eq] at h
   exact .inl ⟨.inr c, h.1.1⟩
  ·split at h
   ·rename_i c
    simp only [Bool.and_eq_true, decide_eq_true_eq] at h
    exact .inr (.inr (.inl ⟨c, h.1.1, h.1.2, h.2⟩))
   ·split at h
    ·rename_i c
     simp only [Bool.and_eq_true, decide_eq_true_eq] at h
     have := Nw h.2
     exact .inr (.inr (.inr (.inl ⟨c, h.1, this.1, this.2⟩)))
    ·split at h
     ·rename_i c
      simp only [Bool.and_eq_true, decide_eq_true_eq] at h
      exact .inr (.inr (.inr (.inr ⟨c, h.1.1, h.1.2, h.2⟩)))
     ·cases h
theorem AcE {l : List AY} {n : AY} (h : Bb l n = true) : dnC ⟨n.kind, n.n, n.s⟩ n.kids.length := by
 unfold Bb at h
 unfold dnC
 dsimp only
 split at h
 ·rename_i c
  simp only [Bool.and_eq_true, decide_eq_true_eq] at h
  exact ⟨fun _ => h.1.1, fun e => by omega, fun e => by omega⟩
 ·split at h
  ·rename_i c
   exact ⟨fun e => by omega, fun e => by omega, fun e => by omega⟩
  ·split at h
   ·rename_i c
    simp only [Bool.and_eq_true, decide_eq_true_eq] at h
    exact ⟨fun _ => h.1.1, fun e => by omega, fun e => by omega⟩
   ·split at h
    ·rename_i c
     simp only [Bool.and_eq_true, decide_eq_true_eq] at h
     have := Nw h.2
     exact ⟨fun e => by omega, fun e => by omega, fun _ => this.2⟩
    ·split at h
     ·rename_i c
      simp only [Bool.and_eq_true, decide_eq_true_eq] at h
      exact ⟨fun e => by omega, fun _ => h.1.1, fun e => by omega⟩
     ·cases h
theorem Ack {q : List AU} (h : Dg q = true) (i : Nat) (hi : i < q.length) : Cy q (q.getD i default) = true := by
 have h1 := (FC h).2.2 i hi
 unfold FG at h1
 rw [Bool.and_eq_true] at h1
 exact h1.1
theorem L8 {q : List AU} (h : Dg q = true) : ∀ f i, i < q.length → q.length - i ≤ f → PGd (BD (phd q) (BK q) f i)
 | 0, i, hi, hf => by omega
 | f + 1, i, hi, hf => by
  rw [BD]
  refine .mk _ _ ?_ fun k hk => ?_
  ·rw [List.length_map]
   exact Acf (Ack h i hi)
  ·obtain ⟨j, hj, rfl⟩ := List.mem_map.1 hk
   have := D5 (FC h).2.1 hi hj
   exact L8 h f j.toNat (by omega) (by omega)
theorem Mf {l : List AY} (h : Ct l = true) : (1 ≤ l.length ∧ l.length ≤ 600) ∧ Du (A5 l) l.length = true ∧ ∀ i, i < l.length → Bb l (l.getD i default) = true := by
 unfold Ct at h
 simp only [Bool.and_eq_true, decide_eq_true_eq] at h
 refine ⟨by omega, h.1.2, fun i hi => ?_⟩
 rw [Be hi]
 exact List.all_eq_true.1 h.2 _ (List.getElem_mem hi)
theorem QC {l : List AY} (h : Ct l = true) : ∀ f i, i < l.length → l.length - i ≤ f → DGd (BD (dhd l) (A5 l) f i)
 | 0, i, hi, hf => by omega
 | f + 1, i, hi, hf => by
  rw [BD]
  refine .mk _ _ ?_ fun k hk => ?_
  ·rw [List.length_map]
   exact AcE ((Mf h).2.2 i hi)
  ·obtain ⟨j, hj, rfl⟩ := List.mem_map.1 hk
   have := D5 (Mf h).2.1 hi hj
   exact QC h f j.toNat (by omega) (by omega)
theorem Acw {q : List AU} {d : List AY} (hq : Dg q = true) (hd : Ct d = true) : JM q d = (BG (Ba q 0) []).all (hT (B4 d 0)) := by
 have h1 := FC hq
 have h2 := Mf hd
 unfold JM V9
 rw [if_pos ⟨hq, hd⟩, Option.isSome_map]
 exact V7 _ (L8 hq q.length 0 (by omega) (by omega)) _ [] _ (by rw [Ij]) (QC hd d.length 0 (by omega) (by omega))
theorem Uk {d : List AY} (hd : Ct d = true) : ∀ (i : Nat) (l : List Pat), (∀ q ∈ l, Dg q.nodes = true) → Ek (B4 d 0) (Bl i (l.map fun q => Ba q.nodes 0)) = match l.findIdx? fun q => JM q.nodes d with | some j => ((i + j : Nat) : Int) | none => -1
 | i, [], _ => by rw [List.map_nil, Bl, Ek]; rfl
 | i, q :: l, h => by
  have ih := Uk hd (i + 1) l (fun q hq => h q (List.mem_cons_of_mem _ hq))
  rw [List.map_cons, Bl, Ek, ih, List.findIdx?_cons, Acw (h q (by simp)) hd]
  cases (BG (Ba q.nodes 0) []).all (hT (B4 d 0)) with
  | true => simp
  | false =>
   simp only [Bool.false_eq_true, if_false]
   cases List.findIdx? (fun q => JM q.nodes d) l with
   | none => rfl
   | some j => simp only [Option.map_some]; congr 1; omega
def AcQ (t : Tst) : Prop := WfT t ∧ (∀ k ∈ t.path, LF k = false) ∧ Qp ⟨0, t.path, t.kind, t.n, t.s, t.has, 0, 0⟩ = true
theorem Sj {ks : List Px} (ih : ∀ k ∈ ks, ∀ p, (∀ k ∈ p, LF k = false) → ∀ t ∈ BG k p, AcQ t) : ∀ (p : List Int) (i : Nat), i + ks.length ≤ 2 → (∀ k ∈ p, LF k = false) → ∀ t ∈ A2 ks p i, AcQ t := by
 induction ks with
 | nil => intro p i _ _ t ht; rw [A2] at ht; cases ht
 | cons k ks ihk =>
  intro p i hi hp t ht
  rw [A2, List.mem_append] at ht
  rw [List.length_cons] at hi
  rcases ht with ht | ht
  ·refine ih k (by simp) _ (fun x hx => ?_) t ht
   rcases List.mem_append.1 hx with hx | hx
   ·exact hp x hx
   ·rw [List.mem_singleton.1 hx]
    unfold LF
    have : (i : Int) = 0 ∨ (i : Int) = 1 := by omega
    rcases this with e | e <;> rw [e] <;> rfl
  ·exact ihk (fun k hk => ih k (by simp [hk])) p (i + 1) (by omega) hp t ht
theorem Y3 : ∀ q, PGd q → ∀ p, (∀ k ∈ p, LF k = false) → ∀ t ∈ BG q p, AcQ t := Px.ind fun h ks ih hq p hp t ht => by
 obtain ⟨_, _, hc, hk⟩ := hq
 rw [BG] at ht
 split at ht
 ·cases ht
 ·rename_i h12
  have hm : ks.length ≤ 2 := by unfold pnC at hc; omega
  rcases List.mem_cons.1 ht with rfl | ht
  ·refine ⟨⟨?_, fun h4 => ?_⟩, hp, ?_⟩
   ·unfold pnC at hc; dsimp only; omega
   ·dsimp only at h4 ⊢; simp [h4]
   ·unfold Qp
    dsimp only
    unfold pnC at hc
    rcases hc with hc | hc | hc | hc | hc
    ·exact absurd hc.1 h12
    ·have : ¬ h.kind = 3 := by omega
     rw [if_neg this, if_pos (.inl hc.1), hc.2.2.1, hc.2.2.2]; simp [hc.1]
    ·rw [if_pos hc.1, hc.2.2.1]; simp [hc.1, hc.2.2.2]
    ·have a1 : ¬ h.kind = 3 := by omega
     have a2 : ¬ (h.kind = 6 ∨ h.kind = 5) := by omega
     rw [if_neg a1, if_neg a2, if_pos hc.1, hc.2.1]
     have e : (if (decide (h.kind = 4) && decide (0 < ks.length)) = true then (1 : Int) else 0) = ks.length := by
      simp only [hc.1, decide_true, Bool.true_and, decide_eq_true_eq]
      split <;> omega
     rw [e, hc.2.2.1]; rfl
    ·have a1 : ¬ h.kind = 3 := by omega
     rw [if_neg a1, if_pos (.inr hc.1), hc.2.2.1, hc.2.2.2]; simp [hc.1]
  ·exact Sj (fun k hk' p hp t ht => ih k hk' (hk k hk') p hp t ht) p 0 (by omega) hp t ht
def Z0 (rows : List BU) : Prop := ∀ r ∈ rows, -1 ≤ r.arm ∧ ∀ t ∈ r.AD, AcQ t
theorem AbA {rows : List BU} (h : Z0 rows) (t : Tst) : Z0 (B8 rows t) := fun r hr => by
 unfold B8 at hr
 obtain ⟨r', hr', rfl⟩ := List.mem_map.1 hr
 have := h r' (List.mem_filter.1 hr').1
 exact ⟨this.1, fun x hx => this.2 x (List.mem_filter.1 hx).1⟩
theorem AcI {rows : List BU} (h : Z0 rows) (t : Tst) : Z0 (noR rows t) := fun r hr => h r (List.mem_filter.1 hr).1
theorem YK {a : Ask} {i n n' : Int} (h : Iq a i n = true) (hn : n ≤ n') : Iq a i n' = true := by
 unfold Iq at h ⊢
 split at h
 ·rename_i c; rw [if_pos c]; exact h
 ·rename_i c
  rw [if_neg c]
  simp only [Bool.and_eq_true, decide_eq_true_eq] at h ⊢
  refine ⟨⟨⟨h.1.1.1, h.1.1.2⟩, ⟨h.1.2.1, by omega⟩⟩, ⟨h.2.1, by omega⟩⟩
theorem NK {f base : Nat} {rows : List BU} (hw : wtR rows < f) (hb : base ≤ 400) : 0 < (A9 f base rows).length := by
 cases f with
 | zero => omega
 | succ f =>
  rw [A9, if_neg (by omega)]
  cases rows with
  | nil => rw [C8]; simp
  | cons r rs =>
   rw [C8]
   cases r.AD with
   | nil => rw [Fo]; simp
   | cons t ts => rw [Fo]; simp
theorem Tv (arm : Int) (i n : Int) (h : -1 ≤ arm) : Iq ⟨arm, [], 0, 0, bs [], false, 0, 0⟩ i n = true := by
 unfold Iq
 simp [h]
def GA (lo hi : Int) (l : List Ask) : Prop := ∀ i (h : i < l.length), Iq l[i] (lo + i) hi = true
theorem NL : ∀ (f base : Nat) (rows : List BU), wtR rows < f → base + (A9 f base rows).length ≤ 400 → Z0 rows → GA base ((base : Int) + (A9 f base rows).length) (A9 f base rows)
 | 0, base, rows, hw, _, _ => by omega
 | f + 1, base, rows, hw, hb, ha => by
  have hb0 : ¬ 400 < base := by omega
  have h2 : A9 (f + 1) base rows = C8 (A9 f) base rows := by rw [A9, if_neg hb0]
  rw [h2] at hb ⊢
  cases rows with
  | nil =>
   rw [C8]
   intro i h
   have : i = 0 := by simpa using h
   subst this
   exact Tv _ _ _ (by omega)
  | cons r rs =>
   rw [C8] at hb ⊢
   have hr := ha r (by simp)
   cases ht : r.AD with
   | nil =>
    rw [Fo]
    intro i h
    have : i = 0 := by simpa using h
    subst this
    exact Tv _ _ _ hr.1
   | cons t ts =>
    rw [ht, Fo] at hb
    rw [Fo]
    have h1 := Ro (rs := rs) ht
    have h3 := WL (rs := rs) ht
    have hyb := NK (base := base + 1) (show wtR (B8 (r :: rs) t) < f by omega)
    have ihY := NL f (base + 1) (B8 (r :: rs) t) (by omega)
    obtain ⟨Y, hY⟩ : ∃ Y, Y = A9 f (base + 1) (B8 (r :: rs) t) := ⟨_, rfl⟩
    have hnb := NK (base := base + 1 + Y.length) (show wtR (noR (r :: rs) t) < f by omega)
    have ihN := NL f (base + 1 + Y.length) (noR (r :: rs) t) (by omega)
    rw [← hY] at hb ihY hyb ⊢
    obtain ⟨M, hM⟩ : ∃ M, M = A9 f (base + 1 + Y.length) (noR (r :: rs) t) := ⟨_, rfl⟩
    rw [← hM] at hb ihN hnb ⊢
    simp only [List.length_cons, List.length_append] at hb
    rw [List.length_cons, List.length_append]
    intro i h
    cases i with
    | zero =>
     rw [List.getElem_cons_zero]
     have wt := hr.2 t (by rw [ht]; simp)
     unfold Iq
     dsimp only
     rw [if_neg wt.1.1]
     have hk : Qp ⟨0, t.path, t.kind, t.n, t.s, t.has, (base : Int) + 1, (base : Int) + 1 + Y.length⟩ = true := wt.2.2
     have hp : t.path.any LF = false := List.any_eq_false.2 fun k hk => by rw [wt.2.1 k hk]; decide
     rw [hk, hp]
     simp only [Bool.not_false, Bool.and_eq_true, decide_eq_true_eq, true_and]
     omega
    | succ i =>
     rw [List.getElem_cons_succ]
     rw [List.length_cons, List.length_append] at h
     by_cases hi : i < Y.length
     ·rw [List.getElem_append_left hi]
      have := ihY (by omega) (AbA ha t) i hi
      have e : ((base : Int) + ((i + 1 : Nat) : Int)) = ((base + 1 : Nat) : Int) + (i : Int) := by omega
      rw [e]
      exact YK this (by omega)
     ·rw [List.getElem_append_right (by omega)]
      have := ihN (by omega) (AcI ha t) (i - Y.length) (by omega)
      have e : ((base : Int) + ((i + 1 : Nat) : Int)) = ((base + 1 + Y.length : Nat) : Int) + ((i - Y.length : Nat) : Int) := by omega
      rw [e]
      exact YK this (by omega)
theorem LY : ∀ (i : Nat) (l : List Px), (∀ q ∈ l, PGd q) → Z0 (Bl i l)
 | i, [], _ => fun r hr => by rw [Bl] at hr; cases hr
 | i, q :: l, h => fun r hr => by
  rw [Bl] at hr
  rcases List.mem_cons.1 hr with rfl | hr
  ·exact ⟨by dsimp only; omega, Y3 q (h q (by simp)) [] (fun k hk => by cases hk)⟩
  ·exact LY (i + 1) l (fun q hq => h q (List.mem_cons_of_mem _ hq)) r hr
theorem Q8 {l : List Pat} {a : List Ask} (h : DF l = some a) : (∀ q ∈ l, Dg q.nodes = true) ∧ l ≠ [] ∧ a = A9 (wtR (Bl 0 (l.map fun q => Ba q.nodes 0)) + 1) 0 (Bl 0 (l.map fun q => Ba q.nodes 0)) ∧ a.length ≤ 400 := by
 unfold DF at h
 split at h
 ·cases h
 ·rename_i c
  dsimp only at h
  split at h
  ·cases h
  ·rename_i c2
   cases h
   refine ⟨fun q hq => ?_, fun e => c (.inl e), rfl, by omega⟩
   cases hb : Dg q.nodes with
   | true => rfl
   | false => exact absurd (.inr (List.any_eq_true.2 ⟨q, hq, by rw [hb]; rfl⟩)) c
theorem SJ {l : List Pat} (h : ∀ q ∈ l, Dg q.nodes = true) : ∀ t ∈ l.map fun q => Ba q.nodes 0, PGd t := fun t ht => by
 obtain ⟨q, hq, rfl⟩ := List.mem_map.1 ht
 have := FC (h q hq)
 exact L8 (h q hq) _ 0 (by omega) (by omega)
theorem OX {l : List Pat} {a : List Ask} (h : DF l = some a) : I4 a = true := by
 obtain ⟨h1, h2, h3, h4⟩ := Q8 h
 have ha := LY 0 _ (SJ h1)
 have hp := NK (f := wtR (Bl 0 (l.map fun q => Ba q.nodes 0)) + 1) (base := 0) (rows := Bl 0 (l.map fun q => Ba q.nodes 0)) (by omega) (by omega)
 have hk := NL (wtR (Bl 0 (l.map fun q => Ba q.nodes 0)) + 1) 0 _ (by omega) (by rw [← h3]; omega) ha
 rw [← h3] at hp hk
 rw [Ra fun k hk' => by have := hk k hk'; simpa using this]
 simp only [Bool.and_eq_true, decide_eq_true_eq]
 omega
theorem Wq {l : List Pat} {a : List Ask} {d : List AY} (h : DF l = some a) (hd : Ct d = true) : GP a d = indexOf l fun q => JM q.nodes d := by
 obtain ⟨h1, h2, h3, h4⟩ := Q8 h
 have ha := LY 0 _ (SJ h1)
 unfold GP
 rw [if_pos ⟨OX h, hd⟩]
 unfold UZ
 have := ND (B4 d 0) a (wtR (Bl 0 (l.map fun q => Ba q.nodes 0)) + 1) 0 (Bl 0 (l.map fun q => Ba q.nodes 0)) (fun i hi => by
  simp only [← h3] at hi ⊢
  rw [Nat.zero_add, List.getElem?_eq_getElem hi]) (by omega) (by rw [← h3]; omega) (fun r hr t ht => ((ha r hr).2 t ht).1) a.length (by rw [← h3]; exact Nat.le_refl _)
 rw [this, Uk hd 0 l h1]
 unfold indexOf
 cases List.findIdx? (fun q => JM q.nodes d) l with
 | none => rfl
 | some j => simp
end Go.Proofs.YteeiaaogmjbcjaaGreat
set_option linter.unusedVariables false
namespace Go.Proofs.YteeiaaogmjbcjaaGreat
open Go.RowKit Go.Proofs.YteeiaaogmjbcjaaGreat.Av Go.Proofs.YteeiaaogmjbcjaaGreat.Ml
open Go.Proofs.YteeiaaogmjbcjaaGreat.Av.AVal (av)

def TOk (t : Tst) : Prop := t.path.length ≤ 600 ∧ t.s.size ≤ 12
def ROk (rows : List BU) : Prop := ∀ r ∈ rows, ∀ t ∈ r.AD, TOk t
theorem ROk.yes {rows : List BU} (h : ROk rows) (t : Tst) : ROk (B8 rows t) := fun r hr x hx => by
 unfold B8 at hr
 obtain ⟨q, hq, rfl⟩ := List.mem_map.1 hr
 exact h q (List.mem_filter.1 hq).1 x (List.mem_filter.1 hx).1
theorem ROk.no {rows : List BU} (h : ROk rows) (t : Tst) : ROk (noR rows t) := fun r hr x hx => h r (List.mem_filter.1 hr).1 x hx
theorem Rv : ∀ (f base : Nat) (rows : List BU), ROk rows → ∀ x ∈ A9 f base rows, x.path.length ≤ 600 ∧ x.s.size ≤ 12
 | 0, base, rows, h, x, hx => by rw [A9] at hx; cases hx
 | f + 1, base, rows, h, x, hx => by
  rw [A9] at hx
  split at hx
  ·cases hx
  ·cases rows with
   | nil =>
    rw [C8] at hx
    rw [List.mem_singleton.1 hx]
    exact ⟨Nat.zero_le _, Nat.zero_le _⟩
   | cons r rs =>
    rw [C8] at hx
    cases ht : r.AD with
    | nil =>
     rw [ht, Fo] at hx
     rw [List.mem_singleton.1 hx]
     exact ⟨Nat.zero_le _, Nat.zero_le _⟩
    | cons t ts =>
     rw [ht, Fo] at hx
     rcases List.mem_cons.1 hx with rfl | hx
     ·exact h r (by simp) t (by rw [ht]; simp)
     ·rcases List.mem_append.1 hx with hx | hx
      ·exact Rv f _ _ (h.yes t) x hx
      ·exact Rv f _ _ (h.no t) x hx
theorem Mm : ∀ (ks : List Px) (p : List Int) (i : Nat) (t : Tst), t ∈ A2 ks p i → ∃ k ∈ ks, ∃ p', t ∈ BG k p'
 | [], p, i, t, h => by rw [A2] at h; cases h
 | k :: ks, p, i, t, h => by
  rw [A2, List.mem_append] at h
  rcases h with h | h
  ·exact ⟨k, by simp, _, h⟩
  ·obtain ⟨k', h1, p', h2⟩ := Mm ks p (i + 1) t h
   exact ⟨k', List.mem_cons_of_mem _ h1, p', h2⟩
theorem PE {c : Int} {s : ByteArray} (h : GY c s = true) : s.size ≤ 12 := by
 unfold GY at h
 simp only [Bool.and_eq_true, decide_eq_true_eq] at h
 omega
theorem Ace {Q : List AU} {n : AU} (h : Cy Q n = true) : n.s.size ≤ 12 := by
 unfold Cy at h
 have e : ∀ l : List Nat, n.s = bs l → l.length ≤ 12 → n.s.size ≤ 12 := fun l hs hl => by rw [hs]; simpa [bs, ByteArray.size] using hl
 split at h
 ·simp only [Bool.and_eq_true, decide_eq_true_eq] at h
  exact e [] h.2 (by decide)
 ·split at h
  ·simp only [Bool.and_eq_true, decide_eq_true_eq] at h
   have h2 := h.2
   unfold Jk at h2
   simp only [Bool.and_eq_true] at h2
   exact PE h2.1
  ·split at h
   ·simp only [Bool.and_eq_true, decide_eq_true_eq] at h
    exact e [] h.1.2 (by decide)
   ·split at h
    ·simp only [Bool.and_eq_true] at h
     have h2 := h.2
     unfold DO at h2
     split at h2
     ·rename_i hs
      rcases hs with hs | hs | hs
      ·exact e _ hs (by decide)
      ·exact e _ hs (by decide)
      ·exact e _ hs (by decide)
     ·split at h2
      ·rename_i hs
       exact e _ hs (by decide)
      ·simp only [Bool.and_eq_true] at h2
       exact PE h2.1
    ·split at h
     ·simp only [Bool.and_eq_true, decide_eq_true_eq] at h
      exact e [] h.2 (by decide)
     ·cases h
theorem Ab0 {Q : List AU} (hq : Dg Q = true) : ∀ (f i : Nat) (p : List Int) (t : Tst), i < Q.length → t ∈ BG (BD (phd Q) (BK Q) f i) p → t.s.size ≤ 12 := by
 obtain ⟨pl, pt, pn⟩ := FC hq
 have hn : ∀ i, i < Q.length → (phd Q i).s.size ≤ 12 := fun i hi => by
  have := pn i hi
  unfold FG at this
  simp only [Bool.and_eq_true] at this
  exact Ace this.1
 intro f
 induction f with
 | zero =>
  intro i p t hi h
  rw [BD, BG] at h
  split at h
  ·cases h
  ·rw [A2] at h
   rw [List.mem_singleton.1 h]
   exact hn i hi
 | succ f ih =>
  intro i p t hi h
  rw [BD, BG] at h
  split at h
  ·cases h
  ·rcases List.mem_cons.1 h with rfl | h
   ·exact hn i hi
   ·obtain ⟨k, hk, p', h2⟩ := Mm _ _ _ _ h
    obtain ⟨j, hj, rfl⟩ := List.mem_map.1 hk
    have := D5 pt hi hj
    exact ih j.toNat p' t (by omega) h2
theorem Ab5 {l : List Pat} (i : Nat) (h : ∀ q ∈ l, Dg q.nodes = true) : ROk (Bl i (l.map fun q => Ba q.nodes 0)) := fun r hr t ht => by
 obtain ⟨q, hq, he⟩ := LX i _ r hr
 obtain ⟨p, hp, rfl⟩ := List.mem_map.1 hq
 rw [he] at ht
 have h1 := Mn _ _ t ht
 have h2 := Jh (h p hp)
 simp only [List.length_nil] at h1
 exact ⟨by omega, Ab0 (h p hp) _ 0 [] t h2.2.2.1 ht⟩
theorem Yt {α : Type} [AB α] (n : Nat) : ∀ (l : List α), (∀ x ∈ l, AB.bulk x ≤ n) → AB.bulk l ≤ l.length * n + 1
 | [], _ => by simp [AB.bulk]
 | x :: l, h => by
  have h1 := Yt n l (fun y hy => h y (List.mem_cons_of_mem _ hy))
  have h2 := h x (by simp)
  simp only [AB.bulk, List.map_cons, List.sum_cons, List.length_cons] at h1 ⊢
  rw [Nat.add_mul]
  omega
theorem Ws (l : List Pat) : AB.bulk (⟨(DF l).getD []⟩ : EY) ≤ 400000 := by
 have hnone : AB.bulk (⟨[]⟩ : EY) ≤ 400000 := by simp [AB.bulk]
 unfold DF
 split
 ·exact hnone
 ·rename_i hc
  dsimp only
  split
  ·exact hnone
  ·rename_i hb
   rw [Option.getD_some]
   have hall : ∀ q ∈ l, Dg q.nodes = true := fun q hq => by
    by_cases h : Dg q.nodes = true
    ·exact h
    ·exact absurd (.inr (List.any_eq_true.2 ⟨q, hq, by simpa using h⟩)) hc
   have ho := Rv (wtR (Bl 0 (l.map fun q => Ba q.nodes 0)) + 1) 0 _ (Ab5 0 hall)
   generalize A9 (wtR (Bl 0 (l.map fun q => Ba q.nodes 0)) + 1) 0 (Bl 0 (l.map fun q => Ba q.nodes 0)) = P at *
   have h1 := Yt 900 P (fun x hx => by
    have h1 := ho x hx
    have h2 := Im x.path
    simp only [AB.bulk] at h2 ⊢
    omega)
   have h2 : P.length * 900 ≤ 400 * 900 := Nat.mul_le_mul_right _ (by omega)
   show AB.bulk P + 1 ≤ 400000
   omega
end Go.Proofs.YteeiaaogmjbcjaaGreat
set_option linter.unusedVariables false
set_option maxRecDepth 100000
namespace Go.Proofs.YteeiaaogmjbcjaaGreat
open Go.Proofs.YteeiaaogmjbcjaaGreat.Av

theorem Dr : Tryz.prog.follows .mixedOrders = true := by kernel_rfl

def FN : Ir Tryz.prog 96 [] [] 2 := ⟨_, _, Tryz.func96, Dr, by kernel_rfl, Ay [] Tryz.progTables (by conv => lhs; cbv) (by kernel_rfl)⟩
def DB : Ir Tryz.prog 97 [] [] 2 := ⟨_, _, Tryz.func97, Dr, by kernel_rfl, Ay [] Tryz.progTables (by conv => lhs; cbv) (by kernel_rfl)⟩
def Et : Ir Tryz.prog 43 [(29,7774),(64,7774),(31,7775),(33,7775),(35,7775),(37,7775),(38,7775),(41,7775),(43,7775),(57,7775),(63,7775)] [5] 3 := ⟨((.seq (.region [⟨some 3, none, .Abs (.t 0)⟩, ⟨some 6, none, .mov (.c .Aq)⟩]) (.seq (.region [⟨some 11, none, .Cs 0 (.t 3)⟩, ⟨some 12, none, .load false 1 (.t 11)⟩, ⟨some 13, none, .mov (.t 1)⟩, ⟨some 14, none, .MK 4 (.t 12) (.t 13)⟩, ⟨some 15, none, .load true 4 (.t 14)⟩, ⟨some 7, none, .GN 7 36 4 (.c (.agg [(.int .i64 0), (.int .i64 0), (.str (bs [])), .Aq]))⟩, ⟨none, none, .store 4 (.t 7) (.t 15)⟩]) (.seq (.region [⟨some 16, none, .slO 16 137 0 (.agg [.Aq, (.int .i64 0), (.int .i64 0), (.str (bs [])), (.bool false)]) []⟩, ⟨some 8, none, .mov (.t 16)⟩]) (.seq (.seq (.region [⟨some 17, none, .Cs 0 (.t 7)⟩, ⟨some 18, none, .load false 1 (.t 17)⟩, ⟨some 19, none, .bin .eql .other (.t 18) (.c (.int .i64 1))⟩, ⟨some 20, none, .mov (.t 19)⟩, ⟨some 21, some (20, false), .Cs 0 (.t 7)⟩, ⟨some 22, some (20, false), .load false 1 (.t 21)⟩, ⟨some 23, some (20, false), .bin .eql .other (.t 22) (.c (.int .i64 2))⟩, ⟨some 24, none, .pick (.t 20) (.c (.bool true)) (.t 23)⟩]) (.cond (.t 24) (.seq (.region [⟨some 25, none, .mov (.t 8)⟩, ⟨some 6, none, .mov (.t 25)⟩]) .ret) .skip)) (.seq (.ghost (.region [⟨some 26, none, .mov (.t 8)⟩, ⟨some 28, none, .mov (.t 2)⟩, ⟨some 30, none, .Cs 0 (.t 7)⟩, ⟨some 31, none, .Jm false 1 (.t 30)⟩, ⟨some 32, none, .Cs 1 (.t 7)⟩, ⟨some 33, none, .Jm false 1 (.t 32)⟩, ⟨some 34, none, .Cs 2 (.t 7)⟩, ⟨some 35, none, .Jm false 1 (.t 34)⟩, ⟨some 36, none, .Cs 0 (.t 7)⟩, ⟨some 37, none, .Jm false 1 (.t 36)⟩, ⟨some 38, none, .Wp .eql (.t 37) (.c (.int .i64 4))⟩, ⟨some 27, none, .slO 27 3 0 (.int .i64 0) []⟩, ⟨some 29, none, .R4 29 3 1 8 (.t 27) (.t 28)⟩, ⟨some 39, none, .mov (.t 38)⟩, ⟨some 40, some (39, true), .Cs 3 (.t 7)⟩, ⟨some 41, some (39, true), .Jm false 1 (.t 40)⟩, ⟨some 42, some (39, true), .len false (.t 41)⟩, ⟨some 43, some (39, true), .Wp .eql (.t 42) (.c (.int .i64 1))⟩, ⟨some 44, none, .pick (.t 39) (.t 43) (.c (.bool false))⟩, ⟨some 45, none, .build [.Aq, (.int .i64 0), (.int .i64 0), (.str (bs [])), (.bool false)] [(0, (1, (.t 29))), (1, (1, (.t 31))), (2, (1, (.t 33))), (3, (1, (.t 35))), (4, (1, (.t 44)))]⟩, ⟨some 46, none, .slP 1 (.agg [.Aq, (.int .i64 0), (.int .i64 0), (.str (bs [])), (.bool false)]) [(0, (.t 45))]⟩, ⟨some 47, none, .append 47 137 5 64 (.t 26) (.t 46)⟩, ⟨some 8, none, .mov (.t 47)⟩])) (.seq (.seq (.region [⟨some 48, none, .Cs 3 (.t 7)⟩, ⟨some 49, none, .load false 1 (.t 48)⟩, ⟨some 50, none, .len false (.t 49)⟩, ⟨some 51, none, .mov (.c (.int .i64 0))⟩]) (.block 0 (.loop (.seq (.region [⟨some 52, none, .bin .lss .other (.t 51) (.t 50)⟩]) (.seq (.cond (.t 52) .skip (.exit 0)) (.seq (.block 1 (.seq (.region [⟨some 53, none, .mov (.t 51)⟩, ⟨some 54, none, .MK 1 (.t 49) (.t 51)⟩, ⟨some 55, none, .load false 1 (.t 54)⟩, ⟨some 9, none, .mov (.t 53)⟩, ⟨some 10, none, .mov (.t 55)⟩]) (.region [⟨some 56, none, .mov (.t 8)⟩, ⟨some 57, none, .Jm true 1 (.t 3)⟩, ⟨some 58, none, .mov (.t 10)⟩, ⟨some 60, none, .mov (.t 2)⟩, ⟨some 62, none, .mov (.t 9)⟩, ⟨some 63, none, .slF 1 (.int .i64 0) [(0, (.t 62))]⟩, ⟨some 59, none, .slO 59 3 0 (.int .i64 0) []⟩, ⟨some 61, none, .append 61 3 1 8 (.t 59) (.t 60)⟩, ⟨some 64, none, .R4 64 3 1 8 (.t 61) (.t 63)⟩, ⟨some 65, none, .call 43 [(.t 57), (.t 58), (.t 64)]⟩, ⟨some 66, none, .append 66 137 5 64 (.t 56) (.t 65)⟩, ⟨some 8, none, .mov (.t 66)⟩]))) (.region [⟨some 67, none, .bin .add .other (.t 51) (.c (.int .i64 1))⟩, ⟨some 51, none, .mov (.t 67)⟩]))))))) (.seq (.region [⟨some 68, none, .mov (.t 8)⟩, ⟨some 6, none, .mov (.t 68)⟩]) .ret))))))), [(.t 6)]), _, Tryz.func43, Dr, by kernel_rfl, by kernel_rfl⟩
def Jp : Ir Tryz.prog 76 [] [15] 2 := ⟨_, _, Tryz.func76, Dr, by kernel_rfl, Ay [] Tryz.progTables (by conv => lhs; cbv) (by kernel_rfl)⟩
def Kg : Ir Tryz.prog 77 [] [] 2 := ⟨_, _, Tryz.func77, Dr, by kernel_rfl, Ay [] Tryz.progTables (by conv => lhs; cbv) (by kernel_rfl)⟩
def Cp : Ir Tryz.prog 44 [(48,7774),(44,90),(18,90),(32,90),(47,7775),(50,7775),(52,7775),(54,7775),(56,7775), (64, 7777), (72, 7777)] [9999, 10,11] 2 := ⟨_, _, Tryz.func44, Dr, by kernel_rfl, Ay [10010] Tryz.progTables (by conv => lhs; cbv) (by kernel_rfl)⟩
def JA : Ir Tryz.prog 12 [(33, 7777)] [11,14] 1 := ⟨_, _, Tryz.func12, Dr, by kernel_rfl, Ay [] Tryz.progTables (by conv => lhs; cbv) (by kernel_rfl)⟩
end Go.Proofs.YteeiaaogmjbcjaaGreat
