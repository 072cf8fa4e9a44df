/-
 PLAIN NODES, AND THE REFERENCE's COUNT, by abstract texts. Conditions: none.
-/
import Derived.Test.YtppjinmlfcokaaaGreatJJ31
import Derived.Test.YtppjinmlfcokaaaGreatJJ28
import Derived.Test.YtppjinmlfcokaaaGreatJPgmW2
set_option linter.unusedVariables false
set_option linter.unusedSimpArgs false
set_option maxRecDepth 100000
namespace Go.Proofs.YtppjinmlfcokaaaGreat
open Go.RowKit Go.Proofs.YtppjinmlfcokaaaGreat.Av Go.Proofs.YtppjinmlfcokaaaGreat.Ml
open Go.Proofs.YtppjinmlfcokaaaGreat.Av.AVal (av)

def C8 (n : Node) (m : Nat) : Bool := decide (n.kind = 1) || decide (n.kind = 2) || decide (n.kind = 12) || (decide (n.kind = 4) && decide ((m : Int) = 0))
theorem Ye (n : Node) (ks : List Tr) (hl : ks.length ≤ 4294967296) : Ak Tryz.prog 118 [av (Tr.mk n ks)] (.bool (C8 n ks.length)) := by
 refine Kh.F rfl (by simp; exact AVal.clean _) (Ae.bool _) ?_
 simp +contextual -dsimp only [↓SD, SU, simprocAttr, Kh, FK, Aa]
 (repeat' (first | intro _ | refine And.intro ?_ ?_))
 all_goals first | omega | (simp [C8, *]; done) | (simp [C8, *]; omega) | trace_state
theorem X2 (n : Node) (hl : n.kids.length ≤ 4294967296) : Ak Tryz.prog 85 [av n] (.bool (C8 n n.kids.length)) := by
 refine J0.F rfl (by simp; exact AVal.clean _) (Ae.bool _) ?_
 simp +contextual -dsimp only [↓SD, SU, simprocAttr, J0, Ay, Aa]
 (repeat' (first | intro _ | refine And.intro ?_ ?_))
 all_goals first | omega | (simp [C8, *]; done) | (simp [C8, *]; omega) | trace_state
end Go.Proofs.YtppjinmlfcokaaaGreat
set_option linter.unusedVariables false
namespace Go.Proofs.YtppjinmlfcokaaaGreat
open Go.RowKit Go.Proofs.YtppjinmlfcokaaaGreat.Av Go.Proofs.YtppjinmlfcokaaaGreat.Ml
open Go.Proofs.YtppjinmlfcokaaaGreat.Av.AVal (av)

def Tr.hd : Tr → Node
 | .mk n _ => n
def Tr.ks : Tr → List Tr
 | .mk _ ks => ks
def Ew : Tr → Bool
 | .mk n ks => C8 n ks.length
mutual
def Dt (s : ByteArray) (a : Node) : Tr → Tr
 | .mk n ks => if n.kind = 3 then (if n.s = s then .mk { a with pos := n.pos } [] else .mk n ks) else .mk n (BO s a n 0 ks)
def BO (s : ByteArray) (a : Node) (n : Node) : Nat → List Tr → List Tr
 | _, [] => []
 | i, t :: ts => (if B5 n i s = true then t else Dt s a t) :: BO s a n (i + 1) ts
end
mutual
def Bh (R : Tr → Tr) : Tr → Tr
 | .mk n ks => R (.mk n (US R ks))
def US (R : Tr → Tr) : List Tr → List Tr
 | [] => []
 | t :: ts => Bh R t :: US R ts
end
theorem RJ (R : Tr → Tr) : ∀ ks, US R ks = ks.map (Bh R)
 | [] => by rw [US]; rfl
 | t :: ts => by rw [US, RJ R ts]; rfl
theorem Mx (R : Tr → Tr) (n : Node) (ks : List Tr) : Bh R (.mk n ks) = R (.mk n (ks.map (Bh R))) := by rw [Bh, RJ]
def AW : Tr → Tr
 | .mk n ks => if n.kind = 7 ∧ Ew (ks.getD 0 (.mk default [])) = true then Dt n.s (ks.getD 0 (.mk default [])).hd (ks.getD 1 (.mk default [])) else .mk n ks
def Km (q : Pat) (a : Node) : Bool :=
 let x := q.nodes.getD 0 default
 if x.kind = 1 ∨ x.kind = 2 then true
 else if x.kind = 3 then decide (a.kind = 1) && decide (a.n = x.n)
 else if x.kind = 6 then decide (a.kind = 12)
 else if x.kind = 4 then decide (a.kind = 4) && decide (a.s = x.s) && decide (x.kids.length = 0)
 else false
def HQ (a : Node) : List Pat → Option Nat
 | [] => none
 | q :: l => if Km q a = true then some 0 else (HQ a l).map (· + 1)
def AR : Tr → Tr
 | .mk n ks =>
  if n.kind = 13 ∧ Ew (ks.getD 0 (.mk default [])) = true ∧ ¬ (ks.getD 0 (.mk default [])).hd.kind = 2 then
   match HQ (ks.getD 0 (.mk default [])).hd n.Ai with
   | none => .mk n ks
   | some i =>
    let x := (n.Ai.getD i default).nodes.getD 0 default
    if x.kind = 2 then .mk ⟨7, n.pos, 0, x.s, [], []⟩ [ks.getD 0 (.mk default []), ks.getD (i + 1) (.mk default [])]
    else ks.getD (i + 1) (.mk default [])
  else .mk n ks
end Go.Proofs.YtppjinmlfcokaaaGreat
set_option linter.unusedVariables false
namespace Go.Proofs.YtppjinmlfcokaaaGreat
open Go.RowKit Go.Proofs.YtppjinmlfcokaaaGreat.Av Go.Proofs.YtppjinmlfcokaaaGreat.Ml
open Go.Proofs.YtppjinmlfcokaaaGreat.Av.AVal (av)

mutual
def Tr.all (P : Node → Prop) : Tr → Prop
 | .mk n ks => P n ∧ Tr.AbJ P ks
def Tr.AbJ (P : Node → Prop) : List Tr → Prop
 | [] => True
 | t :: ts => t.all P ∧ Tr.AbJ P ts
end
theorem Aau {P : Node → Prop} : ∀ {ks : List Tr}, (∀ k ∈ ks, k.all P) → Tr.AbJ P ks
 | [], _ => by rw [Tr.AbJ]; trivial
 | t :: ts, h => by rw [Tr.AbJ]; exact ⟨h t (by simp), Aau fun k hk => h k (by simp [hk])⟩
theorem Pa {P : Node → Prop} {l : List Node} (hk : ∀ i, i < l.length → ∀ k ∈ Bp l i, (i : Int) < k ∧ k < l.length) (hn : ∀ n ∈ l, P n) : ∀ (f i : Nat), i < l.length → l.length - i ≤ f → (Bx l f i).all P
 | 0, i, hi, hf => by omega
 | f + 1, i, hi, hf => by
  rw [Bx, Tr.all]
  have e : l.getD i default = l[i] := by simp [List.getD_eq_getElem?_getD, hi]
  refine ⟨e ▸ hn _ (List.getElem_mem hi), Aau fun t ht => ?_⟩
  obtain ⟨k, hk', rfl⟩ := List.mem_map.1 ht
  have := hk i hi k hk'
  exact Pa hk hn f k.toNat (by omega) (by omega)
def ZB (n : Node) : Prop := (n.kind = 3 → n.Ai = []) ∧ (∀ q ∈ n.Ai, q.nodes ≠ []) ∧ (Adu n.kind = true → 1 ≤ n.s.size) ∧ ∀ q ∈ n.Ai, ∀ x ∈ q.nodes, x.kind = 2 → 1 ≤ x.s.size
theorem Ae2 : ∀ t : Tr, t.all ZB → t.pne := Tr.ind fun n ks ih h => by
 rw [Tr.all] at h
 rw [Tr.pne]
 refine ⟨h.1.2.1, ?_⟩
 have h2 := h.2
 clear h
 induction ks with
 | nil => rw [Tr.Ad5]; trivial
 | cons t ts ih2 =>
  rw [Tr.AbJ] at h2
  rw [Tr.Ad5]
  exact ⟨ih t (by simp) h2.1, ih2 (fun k hk => ih k (by simp [hk])) h2.2⟩
theorem NU {α : Type} [Ac α] : ∀ l : List α, Ac.bulk l = (l.map Ac.bulk).sum + 1
 | [] => rfl
 | a :: l => by
  have := NU l
  show Ac.bulk a + Ac.bulk l = _
  rw [this, List.map_cons, List.sum_cons]; omega
theorem AdQ (l : List Bu) : 5 * (varsOf l).length + 1 ≤ Ac.bulk l := by
 rw [NU]
 have h1 := List.length_filterMap_le (fun n : Bu => if n.kind = 2 then some n.s else none) l
 have h2 : 5 * l.length ≤ (l.map Ac.bulk).sum := by
  clear h1
  induction l with
  | nil => exact Nat.le_refl _
  | cons x l ih =>
   have h3 : Ac.bulk x = Ac.bulk x.kind + Ac.bulk x.n + (x.s.size + 1) + Ac.bulk x.kids + 1 := rfl
   have h4 : Ac.bulk x.kind = 1 := rfl
   have h5 : Ac.bulk x.n = 1 := rfl
   have h6 := Ns x.kids
   simp only [List.map_cons, List.sum_cons, List.length_cons]; omega
 unfold varsOf
 omega
theorem Uc : ∀ {ks : List Tr}, (∀ k ∈ ks, 5 * k.wt ≤ k.bulk) → 5 * Tr.wts ks ≤ Tr.OC ks
 | [], _ => by rw [Tr.wts, Tr.OC]; exact Nat.le_refl _
 | t :: ts, h => by
  have h1 := h t (by simp)
  have h2 := Uc (ks := ts) (fun k hk => h k (by simp [hk]))
  rw [Tr.wts, Tr.OC]; omega
theorem AdK : ∀ t : Tr, 5 * t.wt ≤ t.bulk := Tr.ind fun n ks ih => by
 have h1 := Uc ih
 have h2 : 5 * (n.Ai.map fun q => (varsOf q.nodes).length).sum ≤ Ac.bulk n.Ai := by
  rw [NU]
  have : ∀ l : List Pat, 5 * (l.map fun q => (varsOf q.nodes).length).sum ≤ (l.map Ac.bulk).sum := by
   intro l
   induction l with
   | nil => exact Nat.le_refl _
   | cons q l ih =>
    have h3 := AdQ q.nodes
    have h4 : Ac.bulk q = Ac.bulk q.nodes + 1 := rfl
    simp only [List.map_cons, List.sum_cons]; omega
  have := this n.Ai
  omega
 rw [Tr.wt, Tr.bulk, Es]; omega
end Go.Proofs.YtppjinmlfcokaaaGreat
set_option linter.unusedVariables false
set_option linter.unusedSimpArgs false
set_option maxRecDepth 100000
namespace Go.Proofs.YtppjinmlfcokaaaGreat
open Go.RowKit Go.Proofs.YtppjinmlfcokaaaGreat.Av Go.Proofs.YtppjinmlfcokaaaGreat.Ml
open Go.Proofs.YtppjinmlfcokaaaGreat.Av.AVal (av)

theorem AcJ {nm : Node → Bool} {l : List Node} {n : Node} (h : A1 nm l n = true) (hb : Ac.bulk n ≤ 4294967296) : PR n n.kids.length := by
 unfold A1 at h
 split at h
 ·cases h
 rename_i h0
 refine ⟨fun hk => ?_, fun hk => ?_, hb⟩
 ·have ha : AX n.kind = 0 := by rw [hk]; rfl
  rw [ha] at h0
  omega
 ·simp [hk] at h
  omega
theorem CJ {p : Program} (hx : Ac.bulk p ≤ 4294967296) (hb : Db p = true) : 1 ≤ p.nodes.length ∧ p.nodes.length ≤ 600 ∧ Fc (Bp p.nodes) p.nodes.length = true ∧ (∀ n ∈ p.nodes, PR n n.kids.length) ∧ (∀ n ∈ p.nodes, ∀ q ∈ n.Ai, q.nodes ≠ []) := by
 obtain ⟨q1, q2, q3, q4⟩ := Ck hx
 simp only [Db, JD, Bool.and_eq_true, decide_eq_true_eq, List.all_eq_true] at hb
 obtain ⟨⟨⟨⟨⟨h1, h2⟩, h3⟩, h4⟩, h5⟩, h6⟩ := hb
 refine ⟨by omega, by omega, h3, fun n hn => AcJ (h4 n hn) ?_, fun n hn q hq => ?_⟩
 ·have := AG hn; omega
 ·have := h6 n hn q hq
  intro h
  rw [h] at this
  simp [Gk] at this

end Go.Proofs.YtppjinmlfcokaaaGreat
set_option linter.unusedVariables false
set_option linter.unusedSimpArgs false
set_option maxRecDepth 100000
namespace Go.Proofs.YtppjinmlfcokaaaGreat
open Go.RowKit Go.Proofs.YtppjinmlfcokaaaGreat.Av Go.Proofs.YtppjinmlfcokaaaGreat.Ml
open Go.Proofs.YtppjinmlfcokaaaGreat.Av.AVal (av)

theorem AbM {s : ByteArray} (h : HW 1 s = true) : 1 ≤ s.size := by
 simp only [HW, Bool.and_eq_true, decide_eq_true_eq] at h
 omega
theorem VA {s : ByteArray} (h : FV s = true) : 1 ≤ s.size := by
 simp only [FV, Bool.and_eq_true] at h
 exact AbM h.1
theorem Ae7 {l : List Node} {n : Node} (h : A1 BM l n = true) (hp : ∀ q ∈ n.Ai, Gk q.nodes = true) : ZB n := by
 refine ⟨fun h3 => ?_, fun q hq h0 => ?_, fun hb => ?_, fun q hq x hx hk => ?_⟩
 ·unfold A1 at h
  split at h
  ·cases h
  ·rename_i h0
   cases hp2 : n.Ai with
   | nil => rfl
   | cons a r => exact absurd (.inr (.inr (.inl ⟨by omega, by rw [hp2]; exact fun e => by cases e⟩))) h0
 ·have := hp q hq
  rw [h0] at this
  simp [Gk] at this
 ·unfold A1 at h
  split at h
  ·cases h
  unfold Adu at hb
  simp only [Bool.or_eq_true, decide_eq_true_eq] at hb
  have hname : BM n = true := by
   rcases hb with ((hb | hb) | hb) | hb
   ·simpa [hb] using h
   ·simpa [hb] using h
   ·simp [hb] at h; exact h.1
   ·simpa [hb] using h
  simp only [BM, Bool.and_eq_true] at hname
  exact VA hname.1
 ·have h1 := hp q hq
  obtain ⟨i, hi, rfl⟩ := List.getElem_of_mem hx
  simp only [Gk, Bool.and_eq_true] at h1
  have h2 := W8.1 h1.2 i hi
  have hg : q.nodes.getD i default = q.nodes[i] := by simp [List.getD_eq_getElem?_getD, hi]
  simp only [IV, hg, Bool.and_eq_true] at h2
  have h3 := h2.1
  have h4 : ¬ (q.nodes[i].kind = 1 ∨ q.nodes[i].kind = 6) := by omega
  rw [FR, if_neg h4, if_pos hk] at h3
  simp only [Bool.and_eq_true] at h3
  exact VA h3.2
theorem Ae1 {p : Program} (hb : Db p = true) : ∀ n ∈ p.nodes, ZB n := fun n hn => by
 simp only [Db, JD, Bool.and_eq_true, decide_eq_true_eq, List.all_eq_true] at hb
 obtain ⟨⟨⟨⟨⟨h1, h2⟩, h3⟩, h4⟩, h5⟩, h6⟩ := hb
 exact Ae7 (h4 n hn) (h6 n hn)
theorem D5 {p : Program} (hx : Ac.bulk p ≤ 4294967296) (hb : Db p = true) : (A2 p.nodes 0).ok ∧ (A2 p.nodes 0).all ZB ∧ (A2 p.nodes 0).pne ∧ (A2 p.nodes 0).size ≤ 600 ∧ (A2 p.nodes 0).bulk + 1 = Ac.bulk p.nodes ∧ (A2 p.nodes 0).wt ≤ 3000000000 := by
 obtain ⟨f1, f2, f3, f4, f5⟩ := CJ hx hb
 have hk : ∀ i, i < p.nodes.length → ∀ k ∈ Bp p.nodes i, (i : Int) < k ∧ k < p.nodes.length := fun i hi k hk => DM f3 hi hk
 have h1 := Rk hk f4 p.nodes.length 0 (by omega) (by omega)
 have h2 := Pa hk (Ae1 hb) p.nodes.length 0 (by omega) (by omega)
 have h3 := Uf f3 (i := 0) (by omega)
 have h4 := Abk (A2 p.nodes 0) 0
 rw [I1 f3] at h4
 have h5 := AdK (A2 p.nodes 0)
 have h6 := (Ck hx).2.1
 exact ⟨h1, h2, Ae2 _ h2, by omega, by omega, by omega⟩
end Go.Proofs.YtppjinmlfcokaaaGreat
