/-
 TREES WITH THE KIDS THAT THEY HAVE WHEN THEY ARE LAID, told plainly. Conditions: none.
-/
import Derived.Test.YtppjinmlfcokaaaGreatVJ13
import Derived.Test.YtppjinmlfcokaaaGreatVJ24
import Derived.Test.YtppjinmlfcokaaaGreatVJ07
set_option linter.unusedVariables false
set_option linter.unusedSimpArgs false
set_option maxRecDepth 100000
namespace Go.Proofs.YtppjinmlfcokaaaGreat
open Go.RowKit Go.Proofs.YtppjinmlfcokaaaGreat.Av Go.Proofs.YtppjinmlfcokaaaGreat.Ml
open Go.Proofs.YtppjinmlfcokaaaGreat.Av.AVal (av)

/-! ### trees with the kids that they have when they are laid -/
mutual
def NB : Nat → Tr → Tr
 | b, .mk n ks => .mk { n with kids := Dd (b + 1) ks } (Iu (b + 1) ks)
def Iu : Nat → List Tr → List Tr
 | _, [] => []
 | b, t :: ts => NB b t :: Iu (b + t.size) ts
end
theorem Wo {l : List Node} {g : Nat} : ∀ {ks : List Tr} {b : Nat}, (∀ k ∈ ks, ∀ a, l.length - a ≤ g → (l.drop a).take k.size = Bz a k → a + k.size ≤ l.length → Bw l g a = NB a k) → l.length - b ≤ g → (l.drop b).take (Tr.AJ ks) = BD b ks → b + Tr.AJ ks ≤ l.length → (Dd b ks).map (fun k => Bw l g k.toNat) = Iu b ks
 | [], b, _, _, _, _ => by rw [Dd, Iu]; rfl
 | t :: ts, b, h, hg, hl, hb => by
  rw [Tr.AJ] at hl hb
  rw [BD] at hl
  have hlen : (Bz b t).length = t.size := Dm t b
  have h1 : (l.drop b).take t.size = Bz b t := by
   have e := congrArg (List.take t.size) hl
   rw [List.take_take, Nat.min_eq_left (by omega), List.take_left' hlen] at e
   exact e
  have h2 : (l.drop (b + t.size)).take (Tr.AJ ts) = BD (b + t.size) ts := by
   have e := congrArg (List.drop t.size) hl
   rw [List.drop_take, List.drop_drop, List.drop_left' hlen] at e
   rw [show t.size + Tr.AJ ts - t.size = Tr.AJ ts by omega] at e
   exact e
  rw [Dd, Iu, List.map_cons, Wo (fun k hk => h k (by simp [hk])) (by omega) h2 (by omega)]
  congr 1
  exact h t (by simp) _ (by simpa using hg) h1 (by simp; omega)
theorem AdF (l : List Node) : ∀ (t : Tr) (g b : Nat), l.length - b ≤ g → (l.drop b).take t.size = Bz b t → b + t.size ≤ l.length → Bw l g b = NB b t := Tr.ind fun n ks ih g b hg hl hb => by
 rw [Tr.size] at hl hb
 rw [Bz] at hl
 have hlt : b < l.length := by omega
 rw [List.drop_eq_getElem_cons hlt, List.take_succ_cons] at hl
 obtain ⟨e1, e2⟩ := List.cons.inj hl
 obtain ⟨g, rfl⟩ : ∃ g', g = g' + 1 := ⟨g - 1, by omega⟩
 rw [Bw, NB]
 have e : l.getD b default = l[b] := by simp [List.getD_eq_getElem?_getD, hlt]
 have e3 : Aq l b = Dd (b + 1) ks := by rw [Aq, e, e1]
 rw [e3, e, e1, Wo (fun k hk a ha h1 h2 => ih k hk g a ha h1 h2) (by omega) e2 (by omega)]
theorem Uh (t : Tr) : Al (Bz 0 t) 0 = NB 0 t := by
 have h := Dm t 0
 exact AdF _ t _ 0 (by omega) (by rw [List.drop_zero, List.take_of_length_le (by omega)]) (by omega)
theorem SA {s : ByteArray} {n : Node} {K : List Int} : ∀ {ks : List Tr}, (∀ k ∈ ks, ∀ b, D7 s (NB b k) = D7 s k) → ∀ b i, FK s { n with kids := K } i (Iu b ks) = FK s n i ks
 | [], _, b, i => by rw [Iu, FK, FK]
 | t :: ts, h, b, i => by
  rw [Iu, FK, FK, h t (by simp), SA (fun k hk => h k (by simp [hk]))]
  rfl
theorem AdR (s : ByteArray) : ∀ (t : Tr) (b : Nat), D7 s (NB b t) = D7 s t := Tr.ind fun n ks ih b => by
 rw [NB, D7, D7, SA ih]
theorem Aaa : ∀ (ks : List Tr) (b : Nat), ∀ k ∈ Dd b ks, (b : Int) ≤ k ∧ k < ((b + Tr.AJ ks : Nat) : Int)
 | [], b, k, h => by rw [Dd] at h; cases h
 | t :: ts, b, k, h => by
  have ht : 1 ≤ t.size := by cases t; rw [Tr.size]; omega
  rw [Dd] at h
  rw [Tr.AJ]
  rcases List.mem_cons.1 h with rfl | h
  ·omega
  ·have := Aaa ts _ k h; omega
def Vt (l : List Node) (b e : Nat) : Prop := ∀ (i : Nat) (h : i < l.length), ∀ k ∈ (l[i]).kids, ((b + i : Nat) : Int) < k ∧ k < (e : Int)
theorem AcV {l m : List Node} {b e : Nat} (h1 : Vt l b e) (h2 : Vt m (b + l.length) e) : Vt (l ++ m) b e := fun i h k hk => by
 by_cases hi : i < l.length
 ·rw [List.getElem_append_left hi] at hk
  exact h1 i hi k hk
 ·rw [List.getElem_append_right (by omega)] at hk
  have := h2 (i - l.length) (by rw [List.length_append] at h; omega) k hk
  omega
theorem AeL {l : List Node} {b e e' : Nat} (h : Vt l b e) (he : e ≤ e') : Vt l b e' := fun i hi k hk => by
 have := h i hi k hk
 omega
theorem R7 : ∀ {ks : List Tr}, (∀ k ∈ ks, ∀ b, Vt (Bz b k) b (b + k.size)) → ∀ b, Vt (BD b ks) b (b + Tr.AJ ks)
 | [], _, b => fun i h => by rw [BD] at h; exact absurd h (Nat.not_lt_zero _)
 | t :: ts, h, b => by
  rw [BD, Tr.AJ]
  refine AcV (AeL (h t (by simp) b) (by omega)) ?_
  rw [Dm]
  have := R7 (ks := ts) (fun k hk => h k (by simp [hk])) (b + t.size)
  rw [Nat.add_assoc] at this
  exact this
theorem Adt : ∀ (t : Tr) (b : Nat), Vt (Bz b t) b (b + t.size) := Tr.ind fun n ks ih b => by
 rw [Bz, Tr.size]
 intro i h k hk
 cases i with
 | zero =>
  have := Aaa ks (b + 1) k hk
  omega
 | succ i =>
  have := R7 ih (b + 1) i (by simpa using h) k hk
  omega
theorem AbH (t : Tr) (i : Nat) (hi : i < (Bz 0 t).length) : ∀ k ∈ Aq (Bz 0 t) i, (i : Int) < k ∧ k < (Bz 0 t).length := fun k hk => by
 have e : (Bz 0 t).getD i default = (Bz 0 t)[i] := by simp [List.getD_eq_getElem?_getD, hi]
 rw [Aq, e] at hk
 have := Adt t 0 i hi k hk
 rw [Dm]
 omega
end Go.Proofs.YtppjinmlfcokaaaGreat
set_option linter.unusedVariables false
set_option linter.unusedSimpArgs false
namespace Go.Proofs.YtppjinmlfcokaaaGreat
open Go.RowKit Go.Proofs.YtppjinmlfcokaaaGreat.Av
open Go.Proofs.YtppjinmlfcokaaaGreat.Av.AVal (av)

def wr (n : Int) : Int := (n + 4611686018427387904) % 9223372036854775808 - 4611686018427387904
theorem GK (n : Int) : -4611686018427387904 ≤ wr n ∧ wr n ≤ 4611686018427387903 := by unfold wr; omega
theorem OD {a b : Int} (h : ∃ k, a = b + 9223372036854775808 * k) : wr a = wr b := by
 obtain ⟨k, rfl⟩ := h
 unfold wr
 rw [show b + 9223372036854775808 * k + 4611686018427387904 = (b + 4611686018427387904) + 9223372036854775808 * k by omega, Int.add_mul_emod_self_left]
theorem Tc (a : Int) : ∃ k, wr a = a + 9223372036854775808 * k := ⟨-((a + 4611686018427387904) / 9223372036854775808), by unfold wr; omega⟩
theorem Xy (a b : Int) : wr (wr a + wr b) = wr (a + b) := by
 obtain ⟨k, hk⟩ := Tc a
 obtain ⟨l, hl⟩ := Tc b
 exact OD ⟨k + l, by omega⟩
theorem Afm (a b : Int) : wr (wr a - wr b) = wr (a - b) := by
 obtain ⟨k, hk⟩ := Tc a
 obtain ⟨l, hl⟩ := Tc b
 exact OD ⟨k - l, by omega⟩
def PW (b : Int) (i : Nat) : Int := b % 2 ^ i
theorem AbE (b : Int) : PW b 0 = 0 := by simp [PW, Int.emod_one]
theorem AbF (b : Int) (i : Nat) : PW b (i + 1) = PW b i + 2 ^ i * (b / 2 ^ i % 2) := by
 unfold PW
 have hp : (0 : Int) < 2 ^ i := Int.pow_pos (by decide)
 have e : (2 : Int) ^ (i + 1) = 2 ^ i * 2 := Int.pow_succ 2 i
 have h1 := Int.mul_ediv_add_emod b (2 ^ i)
 have h2 := Int.mul_ediv_add_emod (b / 2 ^ i) 2
 have h3 := Int.emod_nonneg b (Int.ne_of_gt hp)
 have h4 := Int.emod_lt_of_pos b hp
 have h5 : 0 ≤ b / 2 ^ i % 2 := Int.emod_nonneg _ (by decide)
 have h6 : b / 2 ^ i % 2 < 2 := Int.emod_lt_of_pos _ (by decide)
 generalize hq : b / 2 ^ i / 2 = q at *
 generalize hr : b / 2 ^ i % 2 = r at *
 generalize hm : b % 2 ^ i = m at *
 have h7 : b = 2 ^ (i + 1) * q + (m + 2 ^ i * r) := by
  rw [e, ← h1, ← h2, Int.mul_add, Int.mul_assoc]; omega
 rw [h7, Int.add_comm, Int.add_mul_emod_self_left]
 refine Int.emod_eq_of_lt ?_ ?_
 ·have := Int.mul_nonneg (Int.le_of_lt hp) h5; omega
 ·rw [e]
  rcases (by omega : r = 0 ∨ r = 1) with rfl | rfl
  ·omega
  ·omega
theorem GP (a b : Int) (i : Nat) (out x : Int) (ho : out = wr (a * PW b i)) (hx : x = wr (a * 2 ^ i)) : (if b / 2 ^ i % 2 = 1 then wr (out + x) else out) = wr (a * PW b (i + 1)) ∧ wr (x + x) = wr (a * 2 ^ (i + 1)) := by
 subst ho hx
 refine ⟨?_, ?_⟩
 ·rw [AbF]
  split
  ·rename_i h
   rw [h, Int.mul_one, Xy, ← Int.mul_add]
  ·rename_i h
   have : b / 2 ^ i % 2 = 0 := by have := Int.emod_nonneg (b / 2 ^ i) (show (2 : Int) ≠ 0 by decide); have := Int.emod_lt_of_pos (b / 2 ^ i) (show (0 : Int) < 2 by decide); omega
   rw [this, Int.mul_zero, Int.add_zero]
 ·rw [Xy]
  congr 1
  rw [Int.pow_succ, ← Int.mul_assoc]
  omega
theorem AeQ (a b : Int) : wr (a * PW b 63) = wr (a * b) := by
 refine OD ⟨-(a * (b / 2 ^ 63)), ?_⟩
 unfold PW
 have h1 := Int.mul_ediv_add_emod b (2 ^ 63)
 have e : (2 : Int) ^ 63 = 9223372036854775808 := by decide
 rw [e] at h1 ⊢
 have h2 : b % 9223372036854775808 = b - 9223372036854775808 * (b / 9223372036854775808) := by omega
 rw [h2, Int.mul_sub, Int.mul_neg, Int.sub_eq_add_neg]
 congr 2
 rw [Int.mul_left_comm]
def FF (s : ByteArray) (a b : Int) : Int × Bool × Bool :=
 if s = bs [43] then (wr (a + b), false, true)
 else if s = bs [45] then (wr (a - b), false, true)
 else if s = bs [42] then (wr (a * b), false, true)
 else if s = bs [47] then (if wr b = 0 then (0, false, false) else (wr ((wr a).tdiv (wr b)), false, true))
 else if s = bs [37] then (if wr b = 0 then (0, false, false) else ((wr a).tmod (wr b), false, true))
 else if s = bs [61] then (if a = b then 1 else 0, true, true)
 else if s = bs [60, 62] then (if a = b then 0 else 1, true, true)
 else if s = bs [60] then (if a < b then 1 else 0, true, true)
 else (if a ≤ b then 1 else 0, true, true)
def GL (v : Int) : ByteArray := if v = 1 then bs [116, 114, 117, 101] else bs [102, 97, 108, 115, 101]
theorem Tj (x y : Int) (hx : -4611686018427387904 ≤ x ∧ x ≤ 4611686018427387903) : -4611686018427387904 ≤ x.tmod y ∧ x.tmod y ≤ 4611686018427387903 := by
 have h1 := Int.mul_tdiv_add_tmod x y
 rcases Int.lt_or_le x 0 with h | h
 ·have h2 : x.tmod y = -((-x).tmod y) := by rw [Int.neg_tmod]; omega
  have h3 : 0 ≤ (-x).tmod y := Int.tmod_nonneg _ (by omega)
  have h4 : (-x).tmod y ≤ -x := by
   have := Int.natAbs_tdiv_le_natAbs (-x) y
   by_cases hy : y = 0
   ·rw [hy, Int.tmod_zero]; exact Int.le_refl _
   ·have h5 := Int.mul_tdiv_add_tmod (-x) y
    have h6 : 0 ≤ y * (-x).tdiv y := by
     rcases Int.lt_or_le y 0 with h7 | h7
     ·have : (-x).tdiv y ≤ 0 := Int.tdiv_nonpos_of_nonneg_of_nonpos (by omega) (by omega)
      exact Int.mul_nonneg_of_nonpos_of_nonpos (by omega) this
     ·exact Int.mul_nonneg h7 (Int.tdiv_nonneg (by omega) h7)
    omega
  omega
 ·have h3 : 0 ≤ x.tmod y := Int.tmod_nonneg _ h
  have h6 : 0 ≤ y * x.tdiv y := by
   rcases Int.lt_or_le y 0 with h7 | h7
   ·have : x.tdiv y ≤ 0 := Int.tdiv_nonpos_of_nonneg_of_nonpos h (by omega)
    exact Int.mul_nonneg_of_nonpos_of_nonpos (by omega) this
   ·exact Int.mul_nonneg h7 (Int.tdiv_nonneg h h7)
  omega
theorem AcP {s : ByteArray} {a b : Int} (h : (FF s a b).2.1 = false) : -4611686018427387904 ≤ (FF s a b).1 ∧ (FF s a b).1 ≤ 4611686018427387903 := by
 unfold FF at h ⊢
 have h0 : (-4611686018427387904 : Int) ≤ 0 ∧ (0 : Int) ≤ 4611686018427387903 := by decide
 repeat' (split at h)
 all_goals first | exact GK _ | exact h0 | exact Tj _ _ (GK _) | (cases h; done) | skip
 all_goals simp_all
 all_goals first | exact GK _ | exact Tj _ _ (GK _)
end Go.Proofs.YtppjinmlfcokaaaGreat
set_option linter.unusedVariables false
set_option linter.unusedSimpArgs false
set_option maxRecDepth 100000
namespace Go.Proofs.YtppjinmlfcokaaaGreat
open Go.RowKit Go.Proofs.YtppjinmlfcokaaaGreat.Av Go.Proofs.YtppjinmlfcokaaaGreat.Ml
open Go.Proofs.YtppjinmlfcokaaaGreat.Av.AVal (av)

def CG (n : Node) (m : Nat) : Bool := decide (n.kind = 1) || decide (n.kind = 2) || decide (n.kind = 12) || (decide (n.kind = 4) && decide ((m : Int) = 0))
theorem Yq (n : Node) (ks : List Tr) (hl : ks.length ≤ 4294967296) : Ah Tryz.prog 118 [av (Tr.mk n ks)] (.bool (CG n ks.length)) := by
 refine JU.F rfl (by simp; exact AVal.clean _) (Ad.bool _) ?_
 simp +contextual -dsimp only [↓SD, SU, simprocAttr, JU, FL, Ab]
 (repeat' (first | intro _ | refine And.intro ?_ ?_))
 all_goals first | omega | (simp [CG, *]; done) | (simp [CG, *]; omega) | trace_state
theorem Yd (n : Node) (hl : n.kids.length ≤ 4294967296) : Ah Tryz.prog 85 [av n] (.bool (CG n n.kids.length)) := by
 refine JA.F rfl (by simp; exact AVal.clean _) (Ad.bool _) ?_
 simp +contextual -dsimp only [↓SD, SU, simprocAttr, JA, As, Ab]
 (repeat' (first | intro _ | refine And.intro ?_ ?_))
 all_goals first | omega | (simp [CG, *]; done) | (simp [CG, *]; omega) | trace_state
end Go.Proofs.YtppjinmlfcokaaaGreat
set_option linter.unusedVariables false
namespace Go.Proofs.YtppjinmlfcokaaaGreat
open Go.RowKit Go.Proofs.YtppjinmlfcokaaaGreat.Av Go.Proofs.YtppjinmlfcokaaaGreat.Ml
open Go.Proofs.YtppjinmlfcokaaaGreat.Av.AVal (av)

def Tr.hd : Tr → Node
 | .mk n _ => n
def Tr.ks : Tr → List Tr
 | .mk _ ks => ks
def Es : Tr → Bool
 | .mk n ks => CG n ks.length
mutual
def De (s : ByteArray) (a : Node) : Tr → Tr
 | .mk n ks => if n.kind = 3 then (if n.s = s then .mk { a with pos := n.pos } [] else .mk n ks) else .mk n (BG s a n 0 ks)
def BG (s : ByteArray) (a : Node) (n : Node) : Nat → List Tr → List Tr
 | _, [] => []
 | i, t :: ts => (if B1 n i s = true then t else De s a t) :: BG s a n (i + 1) ts
end
mutual
def AZ (R : Tr → Tr) : Tr → Tr
 | .mk n ks => R (.mk n (UW R ks))
def UW (R : Tr → Tr) : List Tr → List Tr
 | [] => []
 | t :: ts => AZ R t :: UW R ts
end
theorem RD (R : Tr → Tr) : ∀ ks, UW R ks = ks.map (AZ R)
 | [] => by rw [UW]; rfl
 | t :: ts => by rw [UW, RD R ts]; rfl
theorem KY (R : Tr → Tr) (n : Node) (ks : List Tr) : AZ R (.mk n ks) = R (.mk n (ks.map (AZ R))) := by rw [AZ, RD]
def AP : Tr → Tr
 | .mk n ks => if n.kind = 7 ∧ Es (ks.getD 0 (.mk default [])) = true then De n.s (ks.getD 0 (.mk default [])).hd (ks.getD 1 (.mk default [])) else .mk n ks
def JZ (q : Pat) (a : Node) : Bool :=
 let x := q.nodes.getD 0 default
 if x.kind = 1 ∨ x.kind = 2 then true
 else if x.kind = 3 then decide (a.kind = 1) && decide (a.n = x.n)
 else if x.kind = 6 then decide (a.kind = 12)
 else if x.kind = 4 then decide (a.kind = 4) && decide (a.s = x.s) && decide (x.kids.length = 0)
 else false
def HR (a : Node) : List Pat → Option Nat
 | [] => none
 | q :: l => if JZ q a = true then some 0 else (HR a l).map (· + 1)
def AM : Tr → Tr
 | .mk n ks =>
  if n.kind = 13 ∧ Es (ks.getD 0 (.mk default [])) = true ∧ ¬ (ks.getD 0 (.mk default [])).hd.kind = 2 then
   match HR (ks.getD 0 (.mk default [])).hd n.Ae with
   | none => .mk n ks
   | some i =>
    let x := (n.Ae.getD i default).nodes.getD 0 default
    if x.kind = 2 then .mk ⟨7, n.pos, 0, x.s, [], []⟩ [ks.getD 0 (.mk default []), ks.getD (i + 1) (.mk default [])]
    else ks.getD (i + 1) (.mk default [])
  else .mk n ks
end Go.Proofs.YtppjinmlfcokaaaGreat
