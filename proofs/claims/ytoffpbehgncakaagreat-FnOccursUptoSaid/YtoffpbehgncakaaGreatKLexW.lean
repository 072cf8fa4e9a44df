/-
 TEXT TAKEN APART by the reference, told weakly: some tokens within bounds. Conditions: none.
-/
import Derived.Test.YtoffpbehgncakaaGreatKWords
import Derived.Test.YtoffpbehgncakaaGreatKJ22
import Derived.Test.YtoffpbehgncakaaGreatKJ21
import Derived.Test.YtoffpbehgncakaaGreatKTxtL
import Derived.Test.YtoffpbehgncakaaGreatKJ20
set_option linter.unusedVariables false
set_option linter.unusedSimpArgs false
set_option maxRecDepth 100000
namespace Go.Proofs.YtoffpbehgncakaaGreat
open Go.RowKit Go.Proofs.YtoffpbehgncakaaGreat.Av Go.Proofs.YtoffpbehgncakaaGreat.Ml
open Go.Proofs.YtoffpbehgncakaaGreat.Av.AVal (av)

structure EI where
 kind : Int
 n : Int
 s : ByteArray
 pos : Int
 deriving DecidableEq, Inhabited
instance : AVal EI := ⟨fun x => .agg [.int .i64 x.kind, .int .i64 x.n, .str x.s, .int .i64 x.pos], 4, fun _ => rfl, fun _ => rfl, fun x y hy => by
 simp only [AV.cells, List.mem_cons, List.not_mem_nil, or_false] at hy
 rcases hy with rfl | rfl | rfl | rfl <;> first | exact Ap.int _ _ | exact Ap.str _, fun _ _ => rfl, fun x y hy => by
 simp only [AV.cells, List.mem_cons, List.not_mem_nil, or_false] at hy
 rcases hy with rfl | rfl | rfl | rfl <;> rfl⟩
theorem AY (x : EI) : av x = .agg [.int .i64 x.kind, .int .i64 x.n, .str x.s, .int .i64 x.pos] := eqq rfl
def Aac (m : Nat) (t : EI) : Prop := (1 ≤ t.kind ∧ t.kind ≤ 6) ∧ (-9000000000000000000 ≤ t.n ∧ t.n ≤ 9000000000000000000) ∧ t.s.size ≤ m ∧ 0 ≤ t.pos ∧ t.pos ≤ m
def hasB (t : ByteArray) (i : Int) (s : ByteArray) : Bool := decide (i ≤ t.size - s.size) && decide (t.extract i.toNat (i + s.size).toNat = s)
theorem QN {t : ByteArray} {i : Int} {s : ByteArray} (h : hasB t i s = true) : i + s.size ≤ t.size := by
 unfold hasB at h
 simp only [Bool.and_eq_true, decide_eq_true_eq] at h
 omega
theorem Jc (t : ByteArray) (i : Int) (s : ByteArray) (ht : t.size ≤ 100000) (hs : s.size ≤ 100000) (h0 : 0 ≤ i) (h1 : i ≤ 200000) : AH Tryz.prog 128 [.str t, .int .i64 i, .str s] (.bool (hasB t i s)) := by
 refine FW.F rfl (by simp; exact ⟨Ap.str _, Cr _, Ap.str _⟩) (Ap.bool _) ?_
 unfold hasB
 by_cases h : i ≤ (t.size : Int) - s.size
 ·simp +contextual -dsimp only [↓SD, SU, simprocAttr, FW, h]
  (repeat' (first | intro _ | refine And.intro ?_ ?_))
  all_goals first | omega | skip
 ·simp +contextual -dsimp only [↓SD, SU, simprocAttr, FW, h]
  (repeat' (first | intro _ | refine And.intro ?_ ?_))
  all_goals first | omega | skip
def Qh (i m : Int) (r : AV) (hp' : Hp) : Prop := ∃ n, r = .int .i64 n ∧ (n = -1 ∨ (i < n ∧ n ≤ m)) ∧ hp' = []
def M3 (s : ByteArray) : Int := if Eu s = true then 3 else if NC s = true then 4 else if kwL.any (fun x => decide (s = x)) = true then 6 else 0
theorem U4 (s : ByteArray) (hs : s.size ≤ 100000) : AH Tryz.prog 132 [.str s] (.agg [.int .i64 (M3 s), .int .i64 0, .str s, .int .i64 0]) := by
 refine D5.F rfl (by simp; exact Ap.str _) (Ap.agg (by intro x hx; simp only [List.mem_cons, List.not_mem_nil, or_false] at hx; rcases hx with rfl | rfl | rfl | rfl <;> first | exact Cr _ | exact Ap.str _)) ?_
 have C1 := AZ s (by omega)
 have C2 := Hf s (by omega)
 have C3 := M0 s
 unfold M3
 cases h1 : Eu s
 ·cases h2 : NC s
  ·cases h3 : kwL.any (fun x => decide (s = x))
   all_goals
    rw [h1] at C1; rw [h2] at C2; rw [h3] at C3
    simp +contextual -dsimp only [↓SD, SU, simprocAttr, D5]
    intro v v3
    refine Ac _ C1 ?_
    simp +contextual -dsimp only [↓SD, SU, simprocAttr]
    refine Ac _ C2 ?_
    simp +contextual -dsimp only [↓SD, SU, simprocAttr]
    refine Ac _ C3 ?_
    simp +contextual -dsimp only [↓SD, SU, simprocAttr]
  ·rw [h1] at C1; rw [h2] at C2
   simp +contextual -dsimp only [↓SD, SU, simprocAttr, D5]
   intro v v3
   refine Ac _ C1 ?_
   simp +contextual -dsimp only [↓SD, SU, simprocAttr]
   refine Ac _ C2 ?_
   simp +contextual -dsimp only [↓SD, SU, simprocAttr]
 ·rw [h1] at C1
  simp +contextual -dsimp only [↓SD, SU, simprocAttr, D5]
  intro v v3
  refine Ac _ C1 ?_
  simp +contextual -dsimp only [↓SD, SU, simprocAttr]
def BF (t : EI) : ByteArray := if t.kind = 6 then t.s else bs []
theorem CM (t : EI) : AH Tryz.prog 136 [.agg [.int .i64 t.kind, .int .i64 t.n, .str t.s, .int .i64 t.pos]] (.str (BF t)) := by
 refine FY.F rfl (by simp; exact AVal.clean t) (Ap.str _) ?_
 unfold BF
 by_cases h : t.kind = 6
 ·simp +contextual -dsimp only [↓SD, SU, simprocAttr, FY, AY, h]
 ·simp +contextual -dsimp only [↓SD, SU, simprocAttr, FY, AY, h]
theorem QH (t : ByteArray) (i : Nat) (ht : t.size ≤ 100000) (hi : i < t.size) (hh : hasB t i (bs [40, 42]) = true) : AW Tryz.prog 129 [.str t, .int .i64 i] [] (Qh i t.size) := by
 refine Gh.H rfl ?_
 have z2 : (bs [40, 42]).size = 2 := rfl
 have z3 : (bs [42, 41]).size = 2 := rfl
 simp +contextual -dsimp only [↓SD, SU, simprocAttr, Gh]
 refine AB (X := Nat × Int) (fun x => ⟨[(0, .str t), (1, .int .i64 x.1), (5, .int .i64 x.2)], []⟩) (fun x => i ≤ x.1 ∧ x.1 ≤ t.size ∧ -200000 ≤ x.2 - x.1 ∧ x.2 ≤ x.1 ∧ -(x.1 : Int) ≤ x.2 ∧ (x.1 = i → x.2 = 0)) (fun x => t.size - x.1) (i, 0) ⟨Nat.le_refl _, by dsimp only; omega, by dsimp only; omega, by dsimp only; omega, by dsimp only; omega, fun _ => rfl⟩ (by simp +contextual -dsimp only [↓SD, SU, simprocAttr]) trivial ?_
 rintro ⟨k, d⟩ ⟨h1, h2, h3, h4, h5, h6⟩
 dsimp only at h1 h2 h3 h4 h5 h6 ⊢
 by_cases hlt : k < t.size
 ·have C1 := Jc t k (bs [40, 42]) (by omega) (by omega) (by omega) (by omega)
  have C2 := Jc t k (bs [42, 41]) (by omega) (by omega) (by omega) (by omega)
  cases hb1 : hasB t k (bs [40, 42]) with
  | true =>
   have hl := QN hb1
   rw [hb1] at C1
   simp +contextual -dsimp only [↓SD, SU, simprocAttr, hlt]
   refine Ac _ C1 ?_
   simp +contextual -dsimp only [↓SD, SU, simprocAttr]
   refine ⟨by omega, by omega, ?_⟩
   exact Ai.le ⟨(k + 2, d + 1), ⟨⟨by dsimp only; omega, by dsimp only; omega, by dsimp only; omega, by dsimp only; omega, by dsimp only; omega, fun h => absurd h (by dsimp only; omega)⟩, (by first | omega | (simp only; omega))⟩, rfl⟩ (by simp +contextual -dsimp only [↓SD, SU, simprocAttr, Int.natCast_add]) trivial
  | false =>
   have hne : k ≠ i := fun e => by rw [e, hh] at hb1; cases hb1
   rw [hb1] at C1
   cases hb2 : hasB t k (bs [42, 41]) with
   | true =>
    have hl := QN hb2
    rw [hb2] at C2
    by_cases h0 : d - 1 = 0
    ·simp +contextual -dsimp only [↓SD, SU, simprocAttr, hlt]
     refine Ac _ C1 ?_
     simp +contextual -dsimp only [↓SD, SU, simprocAttr]
     refine Ac _ C2 ?_
     simp +contextual -dsimp only [↓SD, SU, simprocAttr, h0]
     refine ⟨by omega, ?_⟩
     refine Ai.post [] ?_
     simp +contextual -dsimp only [↓SD, SU, simprocAttr]
     exact ⟨_, rfl, .inr ⟨by omega, by omega⟩, rfl⟩
    ·simp +contextual -dsimp only [↓SD, SU, simprocAttr, hlt]
     refine Ac _ C1 ?_
     simp +contextual -dsimp only [↓SD, SU, simprocAttr]
     refine Ac _ C2 ?_
     simp +contextual -dsimp only [↓SD, SU, simprocAttr, h0]
     refine ⟨by omega, by omega, ?_⟩
     exact Ai.le ⟨(k + 2, d - 1), ⟨⟨by dsimp only; omega, by dsimp only; omega, by dsimp only; omega, by dsimp only; omega, by dsimp only; omega, fun h => absurd h (by dsimp only; omega)⟩, (by first | omega | (simp only; omega))⟩, rfl⟩ (by simp +contextual -dsimp only [↓SD, SU, simprocAttr, Int.natCast_add]) trivial
   | false =>
    rw [hb2] at C2
    simp +contextual -dsimp only [↓SD, SU, simprocAttr, hlt]
    refine Ac _ C1 ?_
    simp +contextual -dsimp only [↓SD, SU, simprocAttr]
    refine Ac _ C2 ?_
    simp +contextual -dsimp only [↓SD, SU, simprocAttr]
    refine ⟨by omega, ?_⟩
    exact Ai.le ⟨(k + 1, d), ⟨⟨by dsimp only; omega, by dsimp only; omega, by dsimp only; omega, by dsimp only; omega, by dsimp only; omega, fun h => absurd h (by dsimp only; omega)⟩, (by first | omega | (simp only; omega))⟩, rfl⟩ (by simp +contextual -dsimp only [↓SD, SU, simprocAttr, Int.natCast_add]) trivial
 ·simp +contextual -dsimp only [↓SD, SU, simprocAttr, hlt]
  refine Ai.post [] ?_
  simp +contextual -dsimp only [↓SD, SU, simprocAttr]
  exact ⟨_, rfl, .inl rfl, rfl⟩
def Jn : List ByteArray := [bs [45, 62], bs [60, 62], bs [60, 61], bs [58, 61], bs [58, 58], bs [40], bs [41], bs [91], bs [93], bs [44], bs [59], bs [124], bs [61], bs [60], bs [43], bs [45], bs [42], bs [47], bs [37], bs [94], bs [33], bs [95]]
theorem YI : ([.str (bs [45, 62]), .str (bs [60, 62]), .str (bs [60, 61]), .str (bs [58, 61]), .str (bs [58, 58]), .str (bs [40]), .str (bs [41]), .str (bs [91]), .str (bs [93]), .str (bs [44]), .str (bs [59]), .str (bs [124]), .str (bs [61]), .str (bs [60]), .str (bs [43]), .str (bs [45]), .str (bs [42]), .str (bs [47]), .str (bs [37]), .str (bs [94]), .str (bs [33]), .str (bs [95])] : List AV) = Jn.map av := rfl
theorem YH : ∀ x ∈ Jn, 1 ≤ x.size ∧ x.size ≤ 2 := by decide +kernel
def Aaf (t : ByteArray) (i : Nat) (r : AV) (hp' : Hp) : Prop := ∃ x : ByteArray, r = .str x ∧ x.size ≤ 2 ∧ (x = bs [] ∨ 1 ≤ x.size ∧ i + x.size ≤ t.size) ∧ hp' = []
theorem Hj (t : ByteArray) (i : Nat) (ht : t.size ≤ 100000) (hi : i < t.size) : AW Tryz.prog 135 [.str t, .int .i64 i] [] (Aaf t i) := by
 refine HL.H rfl ?_
 simp +contextual -dsimp only [↓SD, SU, simprocAttr, HL, YI, Aa, Ab]
 refine AB (X := Nat) (fun k => ⟨[(0, .str t), (1, .int .i64 i), (7, .sl (Jn.map av)), (8, .int .i64 Jn.length), (9, .int .i64 k)], []⟩) (fun k => k ≤ Jn.length) (fun k => Jn.length - k) 0 (Nat.zero_le _) (by simp +contextual -dsimp only [↓SD, SU, simprocAttr, Aa]) trivial ?_
 intro k hk
 have hsl : Jn.length = 22 := rfl
 by_cases hlt : k < Jn.length
 ·have e := getD_map av Jn k .top hlt
  have hz := YH _ (List.getElem_mem hlt)
  generalize Jn[k] = x at *
  have C := Jc t i x (by omega) (by omega) (by omega) (by omega)
  cases hb : hasB t i x with
  | true =>
   have hl := QN hb
   rw [hb] at C
   simp +contextual -dsimp only [↓SD, SU, simprocAttr, hlt, Aa, e, Ec]
   refine Ac _ C ?_
   simp +contextual -dsimp only [↓SD, SU, simprocAttr]
   refine Ai.post [] ?_
   simp +contextual -dsimp only [↓SD, SU, simprocAttr]
   exact ⟨x, rfl, by omega, .inr ⟨by omega, by omega⟩, rfl⟩
  | false =>
   rw [hb] at C
   simp +contextual -dsimp only [↓SD, SU, simprocAttr, hlt, Aa, e, Ec]
   refine Ac _ C ?_
   simp +contextual -dsimp only [↓SD, SU, simprocAttr]
   exact ⟨by omega, Ai.le ⟨k + 1, ⟨hlt, (by first | omega | (simp only; omega))⟩, rfl⟩ (by simp +contextual -dsimp only [↓SD, SU, simprocAttr, Int.natCast_add]) trivial⟩
 ·simp +contextual -dsimp only [↓SD, SU, simprocAttr, hlt, Aa]
  refine Ai.post [] ?_
  simp +contextual -dsimp only [↓SD, SU, simprocAttr]
  exact ⟨bs [], rfl, Nat.zero_le _, .inl rfl, rfl⟩
theorem Yd (t : ByteArray) (i : Nat) (ht : t.size ≤ 100000) (hi : i < t.size) : AW Tryz.prog 133 [.str t, .int .i64 i] [] (Qh i (t.size - 1)) := by
 refine IC.H rfl ?_
 simp +contextual -dsimp only [↓SD, SU, simprocAttr, IC]
 refine ⟨by omega, ?_⟩
 refine AB (X := Nat) (fun k => ⟨[(0, .str t), (1, .int .i64 k)], []⟩) (fun k => i < k ∧ k ≤ t.size + 1) (fun k => t.size + 1 - k) (i + 1) ⟨by omega, by omega⟩ (by simp +contextual -dsimp only [↓SD, SU, simprocAttr, Int.natCast_add]) trivial ?_
 intro k ⟨hk, hk2⟩
 by_cases hlt : k < t.size
 ·by_cases hb : ((A4 t k).toNat : Int) = 34
  ·have hge : ¬ (t.size : Int) ≤ k := by omega
   simp +contextual -dsimp only [↓SD, SU, simprocAttr, hlt, hb, hge]
   refine Ai.post [] ?_
   simp +contextual -dsimp only [↓SD, SU, simprocAttr]
   exact ⟨k, rfl, .inr ⟨by omega, by omega⟩, rfl⟩
  ·by_cases hb2 : ((A4 t k).toNat : Int) = 92
   ·simp +contextual -dsimp only [↓SD, SU, simprocAttr, hlt, hb, hb2]
    refine ⟨by omega, by omega, ?_⟩
    exact Ai.le ⟨k + 2, ⟨⟨by omega, by omega⟩, (by first | omega | (simp only; omega))⟩, rfl⟩ (by simp +contextual -dsimp only [↓SD, SU, simprocAttr, Int.natCast_add, Int.add_assoc]) trivial
   ·simp +contextual -dsimp only [↓SD, SU, simprocAttr, hlt, hb, hb2]
    refine ⟨by omega, ?_⟩
    exact Ai.le ⟨k + 1, ⟨⟨by omega, by omega⟩, (by first | omega | (simp only; omega))⟩, rfl⟩ (by simp +contextual -dsimp only [↓SD, SU, simprocAttr, Int.natCast_add]) trivial
 ·have hge : (t.size : Int) ≤ k := by omega
  simp +contextual -dsimp only [↓SD, SU, simprocAttr, hlt, hge]
  refine Ai.post [] ?_
  simp +contextual -dsimp only [↓SD, SU, simprocAttr]
  exact ⟨_, rfl, .inl rfl, rfl⟩
def KE (b : UInt8) : Nat := ((List.range 16).find? fun d => decide (Jl d = b)).getD 0
theorem SR (b : UInt8) : KE b < 16 := by
 unfold KE
 cases h : (List.range 16).find? fun d => decide (Jl d = b) with
 | none => decide
 | some d => exact List.mem_range.1 (List.mem_of_find?_eq_some h)
theorem M1 (b : UInt8) : AH Tryz.prog 169 [.int .u8 (b.toNat : Int)] (.int .i64 (KE b)) := by
 refine HP.F rfl (by simp; exact pu8 _) (Cr _) ?_
 simp +contextual -dsimp only [↓SD, SU, simprocAttr, HP]
 refine AB (X := Nat) (fun k => ⟨[(0, .int .u8 (b.toNat : Int)), (3, .int .i64 k)], []⟩) (fun k => k ≤ 16 ∧ (List.range 16).find? (fun d => decide (Jl d = b)) = ((List.range 16).drop k).find? (fun d => decide (Jl d = b))) (fun k => 16 - k) 0 ⟨by omega, rfl⟩ (by simp +contextual -dsimp only [↓SD, SU, simprocAttr]) trivial ?_
 intro k ⟨hk, hf⟩
 by_cases hlt : k < 16
 ·have C := La k hlt
  have hd : (List.range 16).drop k = k :: (List.range 16).drop (k + 1) := by
   rw [List.drop_eq_getElem_cons (by rw [List.length_range]; exact hlt), List.getElem_range]
  rw [hd, List.find?_cons] at hf
  have h16 : (k : Int) < 16 := by omega
  by_cases h : Jl k = b
  ·have hh : KE b = k := by unfold KE; rw [hf, decide_eq_true h]; rfl
   rw [h] at C
   simp +contextual -dsimp only [↓SD, SU, simprocAttr, h16]
   refine Ac _ C ?_
   simp +contextual -dsimp only [↓SD, SU, simprocAttr, hh]
  ·have hne : ¬ ((Jl k).toNat : Int) = b.toNat := fun e => h (UInt8.toNat_inj.1 (by omega))
   rw [decide_eq_false h] at hf
   simp +contextual -dsimp only [↓SD, SU, simprocAttr, h16]
   refine Ac _ C ?_
   simp +contextual -dsimp only [↓SD, SU, simprocAttr, hne]
   exact ⟨by omega, Ai.le ⟨k + 1, ⟨⟨hlt, hf⟩, (by first | omega | (simp only; omega))⟩, rfl⟩ (by simp +contextual -dsimp only [↓SD, SU, simprocAttr, Int.natCast_add]) trivial⟩
 ·obtain rfl : k = 16 := by omega
  have hh : KE b = 0 := by unfold KE; rw [hf]; rfl
  simp +contextual -dsimp only [↓SD, SU, simprocAttr, hh]
def Aa2 (m : Nat) (r : AV) (hp' : Hp) : Prop := ∃ (x : ByteArray) (b : Bool), r = .tup [.str x, .bool b] ∧ x.size ≤ m ∧ hp' = []
structure UqS where
 i : Nat
 l : List UInt8
 v : Nat
theorem Vp (t : ByteArray) (ht : t.size ≤ 100000) : AW Tryz.prog 134 [.str t] [] (Aa2 t.size) := by
 refine HQ.H rfl ?_
 simp +contextual -dsimp only [↓SD, SU, simprocAttr, HQ]
 intro v
 refine AB (X := UqS) (fun x => ⟨[(0, .str t), (4, .row 6 x.v x.l.length), (5, .int .i64 x.i)], [(6, ⟨x.v, false, 5, 1, x.l.map av⟩)]⟩) (fun x => 1 ≤ x.i ∧ x.l.length + 1 ≤ x.i ∧ x.l.length ≤ t.size) (fun x => t.size - x.i) ⟨1, [], v⟩ ⟨Nat.le_refl _, Nat.le_refl _, Nat.zero_le _⟩ (by simp +contextual -dsimp only [↓SD, SU, simprocAttr]) (by simp +contextual -dsimp only [↓SD, SU, simprocAttr]) ?_
 rintro ⟨i, l, u⟩ ⟨h1, h2, h3⟩
 dsimp only at h1 h2 h3 ⊢
 have hlm : (l.map (av : UInt8 → AV)).length = l.length := List.length_map _
 have ht2 : List.take l.length (l.map (av : UInt8 → AV)) = l.map av := List.take_of_length_le (by simp)
 have hsn : ∀ b : UInt8, (l ++ [b]).map (av : UInt8 → AV) = l.map av ++ [.int .u8 (b.toNat : Int)] := fun b => by rw [List.map_append]; rfl
 by_cases hlt : (i : Int) < t.size - 1
 ·have hi : i < t.size := by omega
  by_cases hb : ((A4 t i).toNat : Int) = 92
  ·have hi1 : i + 1 < t.size := by omega
   have hi2 : (i : Int) + 1 < t.size := by omega
   have hi3 : (0 : Int) ≤ i + 1 := by omega
   have ht1 : ((i : Int) + 1).toNat = i + 1 := by omega
   by_cases hn : ((A4 t (i + 1)).toNat : Int) = 110
   ·simp +contextual -dsimp only [↓SD, SU, simprocAttr, hlt, hi, hb, ht2, hlm, hi2, hi3, ht1, hn]
    refine ⟨by omega, by omega, ⟨by omega, by unfold maxLen; omega⟩, fun v' => ⟨by omega, ?_⟩⟩
    exact Ai.le ⟨⟨i + 2, l ++ [10], v'⟩, ⟨⟨by dsimp only; omega, by simp only [List.length_append, List.length_cons, List.length_nil]; omega, by simp only [List.length_append, List.length_cons, List.length_nil]; omega⟩, (by first | omega | (simp only; omega))⟩, rfl⟩ (by simp +contextual -dsimp only [↓SD, SU, simprocAttr, List.length_append, Int.natCast_add, Int.add_assoc]) (by simp +contextual -dsimp only [↓SD, SU, simprocAttr, hsn])
   by_cases hx : ((A4 t (i + 1)).toNat : Int) = 120 ∧ (i : Int) + 1 + 2 < t.size
   ·obtain ⟨hx1, hx2⟩ := hx
    have hx3 : (i : Int) + 1 + 1 < t.size := by omega
    have hx4 : (0 : Int) ≤ i + 1 + 1 := by omega
    have hx5 : (0 : Int) ≤ i + 1 + 2 := by omega
    have ht3 : ((i : Int) + 1 + 1).toNat = i + 2 := by omega
    have ht4 : ((i : Int) + 1 + 2).toNat = i + 3 := by omega
    have C1 := M1 (A4 t (i + 2))
    have C2 := M1 (A4 t (i + 3))
    have b1 := SR (A4 t (i + 2))
    have b2 := SR (A4 t (i + 3))
    generalize KE (A4 t (i + 2)) = p at *
    generalize KE (A4 t (i + 3)) = q at *
    simp +contextual -dsimp only [↓SD, SU, simprocAttr, hlt, hi, hb, ht2, hlm, hi2, hi3, ht1, hn, hx1, hx2, hx3, hx4, ht3]
    refine ⟨by omega, by omega, by omega, by omega, ?_⟩
    refine Ac _ C1 ?_
    simp +contextual -dsimp only [↓SD, SU, simprocAttr, hx2, hx5, ht4]
    refine ⟨by omega, by omega, ?_⟩
    refine Ac _ C2 ?_
    simp +contextual -dsimp only [↓SD, SU, simprocAttr, ht2, hlm]
    have e1 : (16 : Int) * p + q = ((UInt8.ofNat (16 * p + q)).toNat : Int) := by rw [UInt8.toNat_ofNat', Nat.mod_eq_of_lt (by omega)]; omega
    refine ⟨by omega, by omega, ⟨by omega, by unfold maxLen; omega⟩, fun v' => ⟨by omega, by omega, ?_⟩⟩
    exact Ai.le ⟨⟨i + 4, l ++ [UInt8.ofNat (16 * p + q)], v'⟩, ⟨⟨by dsimp only; omega, by simp only [List.length_append, List.length_cons, List.length_nil]; omega, by simp only [List.length_append, List.length_cons, List.length_nil]; omega⟩, (by first | omega | (simp only; omega))⟩, rfl⟩ (by simp +contextual -dsimp only [↓SD, SU, simprocAttr, List.length_append, Int.natCast_add, Int.add_assoc]) (by simp +contextual -dsimp only [↓SD, SU, simprocAttr, hsn, ← e1])
   ·by_cases hx1 : ((A4 t (i + 1)).toNat : Int) = 120
    ·have hx2 : ¬ (i : Int) + 1 + 2 < t.size := fun h => hx ⟨hx1, h⟩
     simp +contextual -dsimp only [↓SD, SU, simprocAttr, hlt, hi, hb, ht2, hlm, hi2, hi3, ht1, hn, hx1, hx2]
     refine ⟨by omega, by omega, by omega, ⟨by omega, by unfold maxLen; omega⟩, fun v' => ⟨by omega, ?_⟩⟩
     exact Ai.le ⟨⟨i + 2, l ++ [A4 t (i + 1)], v'⟩, ⟨⟨by dsimp only; omega, by simp only [List.length_append, List.length_cons, List.length_nil]; omega, by simp only [List.length_append, List.length_cons, List.length_nil]; omega⟩, (by first | omega | (simp only; omega))⟩, rfl⟩ (by simp +contextual -dsimp only [↓SD, SU, simprocAttr, List.length_append, Int.natCast_add, Int.add_assoc]) (by simp +contextual -dsimp only [↓SD, SU, simprocAttr, hsn, hx1])
    ·simp +contextual -dsimp only [↓SD, SU, simprocAttr, hlt, hi, hb, ht2, hlm, hi2, hi3, ht1, hn, hx1]
     refine ⟨by omega, by omega, ⟨by omega, by unfold maxLen; omega⟩, fun v' => ⟨by omega, ?_⟩⟩
     exact Ai.le ⟨⟨i + 2, l ++ [A4 t (i + 1)], v'⟩, ⟨⟨by dsimp only; omega, by simp only [List.length_append, List.length_cons, List.length_nil]; omega, by simp only [List.length_append, List.length_cons, List.length_nil]; omega⟩, (by first | omega | (simp only; omega))⟩, rfl⟩ (by simp +contextual -dsimp only [↓SD, SU, simprocAttr, List.length_append, Int.natCast_add, Int.add_assoc]) (by simp +contextual -dsimp only [↓SD, SU, simprocAttr, hsn, hx1])
  ·simp +contextual -dsimp only [↓SD, SU, simprocAttr, hlt, hi, hb, ht2, hlm]
   refine ⟨by omega, ⟨by omega, by unfold maxLen; omega⟩, fun v' => ⟨by omega, ?_⟩⟩
   exact Ai.le ⟨⟨i + 1, l ++ [A4 t i], v'⟩, ⟨⟨by dsimp only; omega, by simp only [List.length_append, List.length_cons, List.length_nil]; omega, by simp only [List.length_append, List.length_cons, List.length_nil]; omega⟩, (by first | omega | (simp only; omega))⟩, rfl⟩ (by simp +contextual -dsimp only [↓SD, SU, simprocAttr, List.length_append, Int.natCast_add]) (by simp +contextual -dsimp only [↓SD, SU, simprocAttr, hsn])
 ·have hsz : (⟨l.toArray⟩ : ByteArray).size = l.length := by show (List.toArray _).size = _; simp
  have CQ := Qm ⟨l.toArray⟩ (by omega)
  simp +contextual -dsimp only [↓SD, SU, simprocAttr, hlt]
  refine ⟨by omega, ?_⟩
  refine NK _ _ (es := l.map av) l (by simp [EM, Ay, ht2]) (List.map_congr_left fun b _ => by rw [Xn]) ?_
  simp +contextual -dsimp only [↓SD, SU, simprocAttr]
  refine Ac _ CQ ?_
  by_cases hq : Uz ⟨l.toArray⟩ = t
  ·simp +contextual -dsimp only [↓SD, SU, simprocAttr, hq]
   refine NK _ _ (es := l.map av) l (by simp [EM, Ay, ht2]) (List.map_congr_left fun b _ => by rw [Xn]) ?_
   simp +contextual -dsimp only [↓SD, SU, simprocAttr]
   refine Ai.post [] ?_
   simp +contextual -dsimp only [↓SD, SU, simprocAttr]
   exact ⟨_, _, rfl, by omega, rfl⟩
  ·simp +contextual -dsimp only [↓SD, SU, simprocAttr, hq]
   refine Ai.post [] ?_
   simp +contextual -dsimp only [↓SD, SU, simprocAttr]
   exact ⟨_, _, rfl, Nat.zero_le _, rfl⟩
theorem XG (s : ByteArray) : (∃ n : Int, Ih s = .tup [.int .i64 n, .bool true] ∧ -9000000000000000000 ≤ n ∧ n ≤ 9000000000000000000) ∨ Ih s = .tup [.int .i64 0, .bool false] := by
 have hd : ∀ (l : List UInt8) (n k : Nat), n ≤ 5000000000000000009 → Gz l n = some k → k ≤ 5000000000000000009 := by
  intro l
  induction l with
  | nil => intro n k hn h; cases h; exact hn
  | cons b l ih =>
   intro n k hn h
   rw [Gz] at h
   split at h
   ·rename_i hb; exact ih _ k (by omega) h
   ·cases h
 cases h : Ii s with
 | none => exact .inr (Ig s h)
 | some n =>
  refine .inl ⟨n, OD s n h, ?_⟩
  unfold Ii at h
  split at h
  ·cases h
  split at h
  ·cases h
  rename_i k hk
  have := hd _ _ _ (by omega) hk
  by_cases hm : minus s = 1
  ·rw [if_pos hm] at h
   split at h
   ·have e := Option.some.inj h
    omega
   ·cases h
  ·rw [if_neg hm] at h
   split at h
   ·have e := Option.some.inj h
    omega
   ·cases h
def Aa5 (m : Nat) (r : AV) (hp' : Hp) : Prop := (∃ c p : Int, r = .tup [.Au, .int .i64 c, .int .i64 p] ∧ (0 < c ∧ c ≤ 100) ∧ (0 ≤ p ∧ p ≤ m) ∧ hp' = []) ∨ ∃ l : List EI, r = .tup [.sl (l.map av), .int .i64 0, .int .i64 0] ∧ l.length ≤ m ∧ (∀ x ∈ l, Aac m x) ∧ hp' = []
structure LxS where
 i : Nat
 l : List EI
 v : Nat
set_option maxHeartbeats 4000000 in
theorem AbT (t : ByteArray) (ht : t.size ≤ 100000) : AW Tryz.prog 78 [.str t] [] (Aa5 t.size) := by
 refine IJ.H rfl ?_
 by_cases hbig : (4000 : Int) < t.size
 ·simp +contextual -dsimp only [↓SD, SU, simprocAttr, IJ, hbig]
  refine Ai.post [] ?_
  simp +contextual -dsimp only [↓SD, SU, simprocAttr]
  exact .inl ⟨1, 0, rfl, by omega, by omega, rfl⟩
 simp +contextual -dsimp only [↓SD, SU, simprocAttr, IJ, hbig]
 intro v
 refine AB (X := LxS) (fun x => ⟨[(0, .str t), (5, .row 20 x.v x.l.length), (6, .int .i64 x.i)], [(20, ⟨x.v, false, 158, 4, x.l.map av⟩)]⟩) (fun x => x.i ≤ t.size ∧ x.l.length ≤ x.i ∧ ∀ y ∈ x.l, Aac t.size y) (fun x => t.size - x.i) ⟨0, [], v⟩ ⟨Nat.zero_le _, Nat.le_refl _, fun y hy => by cases hy⟩ (by simp +contextual -dsimp only [↓SD, SU, simprocAttr]) (by simp +contextual -dsimp only [↓SD, SU, simprocAttr]) ?_
 rintro ⟨i, l, u⟩ ⟨h1, h2, h3⟩
 dsimp only at h1 h2 h3 ⊢
 have hlm : (l.map (av : EI → AV)).length = l.length := List.length_map _
 have ht2 : List.take l.length (l.map (av : EI → AV)) = l.map av := List.take_of_length_le (by simp)
 have hsn : ∀ b : EI, (l ++ [b]).map (av : EI → AV) = l.map av ++ [.agg [.int .i64 b.kind, .int .i64 b.n, .str b.s, .int .i64 b.pos]] := fun b => by rw [List.map_append]; rfl
 by_cases hlt : i < t.size
 case neg =>
  simp +contextual -dsimp only [↓SD, SU, simprocAttr, hlt]
  refine Ai.frz 20 (Ai.post [] ?_)
  simp +contextual -dsimp only [↓SD, SU, simprocAttr, Ab, ht2, hlm, Nat.le_refl]
  exact .inr ⟨l, rfl, by omega, h3, rfl⟩
 have hb8 := b8 t i
 have hlt' : (i : Int) < t.size := by omega
 have CC := ND ((A4 t i).toNat : Int) (by omega) (by omega)
 obtain ⟨b, hbe⟩ : ∃ b, b = A4 t i := ⟨_, rfl⟩
 rw [← hbe] at CC hb8
 by_cases hws : (b.toNat : Int) = 9 ∨ (b.toNat : Int) = 10 ∨ (b.toNat : Int) = 13 ∨ (b.toNat : Int) = 32
 ·rcases hws with h | h | h | h
  all_goals
   simp +contextual -dsimp only [↓SD, SU, simprocAttr, hlt, ← hbe, h]
   refine ⟨by omega, ?_⟩
   exact Ai.le ⟨⟨i + 1, l, u⟩, ⟨⟨by dsimp only; omega, by dsimp only; omega, h3⟩, (by first | omega | (simp only; omega))⟩, rfl⟩ (by simp +contextual -dsimp only [↓SD, SU, simprocAttr, Int.natCast_add]) (by simp +contextual -dsimp only [↓SD, SU, simprocAttr])
 have w1 : ¬ (b.toNat : Int) = 9 := fun h => hws (.inl h)
 have w2 : ¬ (b.toNat : Int) = 10 := fun h => hws (.inr (.inl h))
 have w3 : ¬ (b.toNat : Int) = 13 := fun h => hws (.inr (.inr (.inl h)))
 have w4 : ¬ (b.toNat : Int) = 32 := fun h => hws (.inr (.inr (.inr h)))
 have CH := Jc t i (bs [40, 42]) (by omega) (by decide) (by omega) (by omega)
 cases hh : hasB t i (bs [40, 42]) with
 | true =>
  rw [hh] at CH
  simp +contextual -dsimp only [↓SD, SU, simprocAttr, hlt, ← hbe, w1, w2, w3, w4]
  refine Ac _ CH ?_
  simp +contextual -dsimp only [↓SD, SU, simprocAttr]
  refine Ad [] (QH t i (by omega) hlt hh) (by simp +contextual -dsimp only [↓SD, SU, simprocAttr]) ?_
  rintro r hp' ⟨n, rfl, hn, rfl⟩
  by_cases hn0 : n < 0
  ·simp +contextual -dsimp only [↓SD, SU, simprocAttr, hn0]
   refine Ai.post [] ?_
   simp +contextual -dsimp only [↓SD, SU, simprocAttr]
   exact .inl ⟨6, i, rfl, by omega, by omega, rfl⟩
  ·simp +contextual -dsimp only [↓SD, SU, simprocAttr, hn0]
   exact Ai.le ⟨⟨n.toNat, l, u⟩, ⟨⟨by dsimp only; omega, by dsimp only; omega, h3⟩, (by first | omega | (simp only; omega))⟩, rfl⟩ (by simp +contextual -dsimp only [↓SD, SU, simprocAttr, show ((n.toNat : Nat) : Int) = n by omega]) (by simp +contextual -dsimp only [↓SD, SU, simprocAttr])
 | false =>
  rw [hh] at CH
  by_cases hw : 0 < cls b.toNat ∧ ¬ (b.toNat : Int) = 95
  ·obtain ⟨hw1, hw2⟩ := hw
   simp +contextual -dsimp only [↓SD, SU, simprocAttr, hlt, ← hbe, w1, w2, w3, w4]
   refine Ac _ CH ?_
   simp +contextual -dsimp only [↓SD, SU, simprocAttr]
   intro v9
   refine Ac _ CC ?_
   simp +contextual -dsimp only [↓SD, SU, simprocAttr, hw1, hw2]
   refine AB (X := Nat) (fun k => ⟨[(0, .str t), (5, .row 20 u l.length), (6, .int .i64 i), (7, .int .u8 (b.toNat : Int)), (9, .ptr 9 v9 0 0), (10, .int .i64 k)], [(20, ⟨u, false, 158, 4, l.map av⟩), (9, ⟨v9, false, 158, 4, [.agg [.int .i64 0, .int .i64 0, .str (bs []), .int .i64 0]]⟩)]⟩) (fun k => i ≤ k ∧ k ≤ t.size) (fun k => t.size - k) i ⟨Nat.le_refl _, by omega⟩ (by simp +contextual -dsimp only [↓SD, SU, simprocAttr]) (by simp +contextual -dsimp only [↓SD, SU, simprocAttr]) ?_
   intro k ⟨hk1, hk2⟩
   by_cases hk3 : k < t.size
   case' pos =>
    have b8k := b8 t k
    have CK := ND ((A4 t k).toNat : Int) (by omega) (by omega)
    by_cases hk4 : 0 < cls (A4 t k).toNat
    case' pos =>
     simp +contextual -dsimp only [↓SD, SU, simprocAttr, hk3]
     refine Ac _ CK ?_
     simp +contextual -dsimp only [↓SD, SU, simprocAttr, hk4]
     refine ⟨by omega, ?_⟩
     exact Ai.le ⟨k + 1, ⟨⟨by omega, by omega⟩, (by first | omega | (simp only; omega))⟩, rfl⟩ (by simp +contextual -dsimp only [↓SD, SU, simprocAttr, Int.natCast_add]) (by simp +contextual -dsimp only [↓SD, SU, simprocAttr])
    case' neg =>
     have hki : i < k := by
      rcases Nat.lt_or_ge i k with h | h
      ·exact h
      ·obtain rfl : k = i := by omega
       rw [← hbe] at hk4; exact absurd hw1 hk4
     simp +contextual -dsimp only [↓SD, SU, simprocAttr, hk3]
     refine Ac _ CK ?_
     simp +contextual -dsimp only [↓SD, SU, simprocAttr, hk4]
   case' neg =>
    have hki : i < k := by omega
    simp +contextual -dsimp only [↓SD, SU, simprocAttr, hk3]
   all_goals
    have hex : (t.extract i k).size ≤ t.size := by rw [ByteArray.size_extract]; omega
    have hik : (i : Int) ≤ k := by omega
    have hkt : (k : Int) ≤ t.size := by omega
    refine Ac _ CC ?_
    by_cases h3c : cls b.toNat = 3
    ·simp +contextual -dsimp only [↓SD, SU, simprocAttr, h3c, hik, hkt]
     refine Ac _ (Mq (t.extract i k)) ?_
     rcases XG (t.extract i k) with ⟨n, e, hn⟩ | e
     ·rw [e]
      simp +contextual -dsimp only [↓SD, SU, simprocAttr, ht2, hlm]
      refine ⟨⟨by omega, by unfold maxLen; omega⟩, fun v' => ?_⟩
      exact Ai.le ⟨⟨k, l ++ [(⟨1, n, bs [], i⟩ : EI)], v'⟩, ⟨⟨by dsimp only; omega, by simp only [List.length_append, List.length_cons, List.length_nil]; omega, fun y hy => by
       rcases List.mem_append.1 hy with h | h
       ·exact h3 y h
       ·rw [List.mem_singleton.1 h]; exact ⟨by dsimp only; omega, by dsimp only; omega, Nat.zero_le _, by dsimp only; omega⟩⟩, (by first | omega | (simp only; omega))⟩, rfl⟩ (by simp +contextual -dsimp only [↓SD, SU, simprocAttr, List.length_append, Int.natCast_add]) (by simp +contextual -dsimp only [↓SD, SU, simprocAttr, hsn])
     ·rw [e]
      simp +contextual -dsimp only [↓SD, SU, simprocAttr]
      refine Ai.post [] ?_
      simp +contextual -dsimp only [↓SD, SU, simprocAttr]
      exact .inl ⟨3, i, rfl, by omega, by omega, rfl⟩
    ·simp +contextual -dsimp only [↓SD, SU, simprocAttr, h3c, hik, hkt]
     refine Ac _ (U4 (t.extract i k) (by omega)) ?_
     by_cases hkw : M3 (t.extract i k) = 0
     ·simp +contextual -dsimp only [↓SD, SU, simprocAttr, hkw]
      refine Ai.post [] ?_
      simp +contextual -dsimp only [↓SD, SU, simprocAttr]
      exact .inl ⟨5, i, rfl, by omega, by omega, rfl⟩
     ·have hkk : 1 ≤ M3 (t.extract i k) ∧ M3 (t.extract i k) ≤ 6 := by
       unfold M3 at hkw ⊢
       split at hkw <;> (try split at hkw) <;> (try split at hkw) <;> simp_all
      simp +contextual -dsimp only [↓SD, SU, simprocAttr, hkw, ht2, hlm]
      refine ⟨⟨by omega, by unfold maxLen; omega⟩, fun v' => ?_⟩
      exact Ai.le ⟨⟨k, l ++ [(⟨M3 (t.extract i k), 0, t.extract i k, i⟩ : EI)], v'⟩, ⟨⟨by dsimp only; omega, by simp only [List.length_append, List.length_cons, List.length_nil]; omega, fun y hy => by
       rcases List.mem_append.1 hy with h | h
       ·exact h3 y h
       ·rw [List.mem_singleton.1 h]; exact ⟨hkk, by dsimp only; omega, hex, by dsimp only; omega⟩⟩, (by first | omega | (simp only; omega))⟩, rfl⟩ (by simp +contextual -dsimp only [↓SD, SU, simprocAttr, List.length_append, Int.natCast_add]) (by simp +contextual -dsimp only [↓SD, SU, simprocAttr, hsn])
  ·have c34 : cls 34 = 0 := rfl
   have c39 : cls 39 = 0 := rfl
   have c95 : cls 95 = 3 := rfl
   by_cases q0 : (b.toNat : Int) = 95
   ·have hw1 : 0 < cls b.toNat := by rw [q0]; decide
    simp +contextual -dsimp only [↓SD, SU, simprocAttr, hlt, ← hbe, w1, w2, w3, w4]
    refine Ac _ CH ?_
    simp +contextual -dsimp only [↓SD, SU, simprocAttr]
    intro v9
    refine Ac _ CC ?_
    simp +contextual -dsimp only [↓SD, SU, simprocAttr, hw1, q0, c95]
    refine Ad [] (Hj t i (by omega) hlt) (by simp +contextual -dsimp only [↓SD, SU, simprocAttr]) ?_
    rintro r hp' ⟨x, rfl, hx, hx2, rfl⟩
    by_cases hx0 : x = bs []
    ·simp +contextual -dsimp only [↓SD, SU, simprocAttr, hx0]
     refine Ai.post [] ?_
     simp +contextual -dsimp only [↓SD, SU, simprocAttr]
     exact .inl ⟨2, i, rfl, by omega, by omega, rfl⟩
    ·have hx3 := hx2.resolve_left hx0
     simp +contextual -dsimp only [↓SD, SU, simprocAttr, hx0, ht2, hlm]
     refine ⟨by omega, ?_⟩
     refine ⟨⟨by omega, by unfold maxLen; omega⟩, fun v' => ?_⟩
     exact Ai.le ⟨⟨i + x.size, l ++ [(⟨6, 0, x, i⟩ : EI)], v'⟩, ⟨⟨by dsimp only; omega, by simp only [List.length_append, List.length_cons, List.length_nil]; omega, fun y hy => by
      rcases List.mem_append.1 hy with h | h
      ·exact h3 y h
      ·rw [List.mem_singleton.1 h]; exact ⟨by dsimp only; omega, by dsimp only; omega, by dsimp only; omega, by dsimp only; omega⟩⟩, (by first | omega | (simp only; omega))⟩, rfl⟩ (by simp +contextual -dsimp only [↓SD, SU, simprocAttr, List.length_append, Int.natCast_add]) (by simp +contextual -dsimp only [↓SD, SU, simprocAttr, hsn])
   have hw1 : ¬ 0 < cls b.toNat := fun h => hw ⟨h, q0⟩
   by_cases q1 : (b.toNat : Int) = 34
   ·simp +contextual -dsimp only [↓SD, SU, simprocAttr, hlt, ← hbe, w1, w2, w3, w4]
    refine Ac _ CH ?_
    simp +contextual -dsimp only [↓SD, SU, simprocAttr]
    intro v9
    refine Ac _ CC ?_
    simp +contextual -dsimp only [↓SD, SU, simprocAttr, q1, c34]
    refine Ad [] (Yd t i (by omega) hlt) (by simp +contextual -dsimp only [↓SD, SU, simprocAttr]) ?_
    rintro r hp' ⟨n, rfl, hn, rfl⟩
    by_cases hn0 : n < 0
    ·simp +contextual -dsimp only [↓SD, SU, simprocAttr, hn0]
     refine Ai.post [] ?_
     simp +contextual -dsimp only [↓SD, SU, simprocAttr]
     exact .inl ⟨4, i, rfl, by omega, by omega, rfl⟩
    ·have hin : (i : Int) ≤ n + 1 := by omega
     have hn00 : (0 : Int) ≤ n + 1 := by omega
     have hnt : n + 1 ≤ (t.size : Int) := by omega
     have hex : (t.extract i (n + 1).toNat).size ≤ t.size := by rw [ByteArray.size_extract]; omega
     simp +contextual -dsimp only [↓SD, SU, simprocAttr, hn0, hin, hnt, hn00]
     refine ⟨by omega, ?_⟩
     refine Ad [] (Vp (t.extract i (n + 1).toNat) (by omega)) (by simp +contextual -dsimp only [↓SD, SU, simprocAttr]) ?_
     rintro r hp' ⟨x, bb, rfl, hx, rfl⟩
     cases bb
     ·simp +contextual -dsimp only [↓SD, SU, simprocAttr]
      refine Ai.post [] ?_
      simp +contextual -dsimp only [↓SD, SU, simprocAttr]
      exact .inl ⟨4, i, rfl, by omega, by omega, rfl⟩
     ·simp +contextual -dsimp only [↓SD, SU, simprocAttr, ht2, hlm]
      refine ⟨by omega, ?_⟩
      refine ⟨⟨by omega, by unfold maxLen; omega⟩, fun v' => ?_⟩
      exact Ai.le ⟨⟨(n + 1).toNat, l ++ [(⟨2, 0, x, i⟩ : EI)], v'⟩, ⟨⟨by dsimp only; omega, by simp only [List.length_append, List.length_cons, List.length_nil]; omega, fun y hy => by
       rcases List.mem_append.1 hy with h | h
       ·exact h3 y h
       ·rw [List.mem_singleton.1 h]; exact ⟨by dsimp only; omega, by dsimp only; omega, by dsimp only; omega, by dsimp only; omega⟩⟩, (by first | omega | (simp only; omega))⟩, rfl⟩ (by simp +contextual -dsimp only [↓SD, SU, simprocAttr, List.length_append, Int.natCast_add, show (((n + 1).toNat : Nat) : Int) = n + 1 by omega]) (by simp +contextual -dsimp only [↓SD, SU, simprocAttr, hsn, show (((n + 1).toNat : Nat) : Int) = n + 1 by omega])
   by_cases q2 : (b.toNat : Int) = 39
   ·by_cases q3 : (i : Int) + 1 < t.size
    ·have q4 : (0 : Int) ≤ i + 1 := by omega
     have q5 : ((i : Int) + 1).toNat = i + 1 := by omega
     have bk := b8 t (i + 1)
     have CD := ND ((A4 t (i + 1)).toNat : Int) (by omega) (by omega)
     by_cases q6 : cls (A4 t (i + 1)).toNat = 1
     ·have q7 : 97 ≤ ((A4 t (i + 1)).toNat : Int) := by
       unfold cls at q6
       split at q6
       ·omega
       split at q6
       ·cases q6
       split at q6 <;> cases q6
      simp +contextual -dsimp only [↓SD, SU, simprocAttr, hlt, ← hbe, w1, w2, w3, w4]
      refine Ac _ CH ?_
      simp +contextual -dsimp only [↓SD, SU, simprocAttr]
      intro v9
      refine Ac _ CC ?_
      simp +contextual -dsimp only [↓SD, SU, simprocAttr, q2, c39, q3, q4, q5]
      refine ⟨by omega, by omega, ?_⟩
      refine Ac _ CD ?_
      simp +contextual -dsimp only [↓SD, SU, simprocAttr, q6, q3, q4, q5, ht2, hlm]
      refine ⟨by omega, by omega, by omega, by omega, ?_⟩
      refine ⟨⟨by omega, by unfold maxLen; omega⟩, fun v' => ?_⟩
      exact Ai.le ⟨⟨i + 2, l ++ [(⟨5, ((A4 t (i + 1)).toNat : Int) - 97, bs [], i⟩ : EI)], v'⟩, ⟨⟨by dsimp only; omega, by simp only [List.length_append, List.length_cons, List.length_nil]; omega, fun y hy => by
       rcases List.mem_append.1 hy with h | h
       ·exact h3 y h
       ·rw [List.mem_singleton.1 h]; exact ⟨by dsimp only; omega, by dsimp only; omega, Nat.zero_le _, by dsimp only; omega⟩⟩, (by first | omega | (simp only; omega))⟩, rfl⟩ (by simp +contextual -dsimp only [↓SD, SU, simprocAttr, List.length_append, Int.natCast_add]) (by simp +contextual -dsimp only [↓SD, SU, simprocAttr, hsn])
     ·simp +contextual -dsimp only [↓SD, SU, simprocAttr, hlt, ← hbe, w1, w2, w3, w4]
      refine Ac _ CH ?_
      simp +contextual -dsimp only [↓SD, SU, simprocAttr]
      intro v9
      refine Ac _ CC ?_
      simp +contextual -dsimp only [↓SD, SU, simprocAttr, q2, c39, q3, q4, q5]
      refine ⟨by omega, by omega, ?_⟩
      refine Ac _ CD ?_
      simp +contextual -dsimp only [↓SD, SU, simprocAttr, q6]
      refine Ad [] (Hj t i (by omega) hlt) (by simp +contextual -dsimp only [↓SD, SU, simprocAttr]) ?_
      rintro r hp' ⟨x, rfl, hx, hx2, rfl⟩
      by_cases hx0 : x = bs []
      ·simp +contextual -dsimp only [↓SD, SU, simprocAttr, hx0]
       refine Ai.post [] ?_
       simp +contextual -dsimp only [↓SD, SU, simprocAttr]
       exact .inl ⟨2, i, rfl, by omega, by omega, rfl⟩
      ·have hx3 := hx2.resolve_left hx0
       simp +contextual -dsimp only [↓SD, SU, simprocAttr, hx0, ht2, hlm]
       refine ⟨by omega, ?_⟩
       refine ⟨⟨by omega, by unfold maxLen; omega⟩, fun v' => ?_⟩
       exact Ai.le ⟨⟨i + x.size, l ++ [(⟨6, 0, x, i⟩ : EI)], v'⟩, ⟨⟨by dsimp only; omega, by simp only [List.length_append, List.length_cons, List.length_nil]; omega, fun y hy => by
        rcases List.mem_append.1 hy with h | h
        ·exact h3 y h
        ·rw [List.mem_singleton.1 h]; exact ⟨by dsimp only; omega, by dsimp only; omega, by dsimp only; omega, by dsimp only; omega⟩⟩, (by first | omega | (simp only; omega))⟩, rfl⟩ (by simp +contextual -dsimp only [↓SD, SU, simprocAttr, List.length_append, Int.natCast_add]) (by simp +contextual -dsimp only [↓SD, SU, simprocAttr, hsn])
    ·simp +contextual -dsimp only [↓SD, SU, simprocAttr, hlt, ← hbe, w1, w2, w3, w4]
     refine Ac _ CH ?_
     simp +contextual -dsimp only [↓SD, SU, simprocAttr]
     intro v9
     refine Ac _ CC ?_
     simp +contextual -dsimp only [↓SD, SU, simprocAttr, q2, c39, q3]
     refine ⟨by omega, ?_⟩
     refine Ad [] (Hj t i (by omega) hlt) (by simp +contextual -dsimp only [↓SD, SU, simprocAttr]) ?_
     rintro r hp' ⟨x, rfl, hx, hx2, rfl⟩
     by_cases hx0 : x = bs []
     ·simp +contextual -dsimp only [↓SD, SU, simprocAttr, hx0]
      refine Ai.post [] ?_
      simp +contextual -dsimp only [↓SD, SU, simprocAttr]
      exact .inl ⟨2, i, rfl, by omega, by omega, rfl⟩
     ·have hx3 := hx2.resolve_left hx0
      simp +contextual -dsimp only [↓SD, SU, simprocAttr, hx0, ht2, hlm]
      refine ⟨by omega, ?_⟩
      refine ⟨⟨by omega, by unfold maxLen; omega⟩, fun v' => ?_⟩
      exact Ai.le ⟨⟨i + x.size, l ++ [(⟨6, 0, x, i⟩ : EI)], v'⟩, ⟨⟨by dsimp only; omega, by simp only [List.length_append, List.length_cons, List.length_nil]; omega, fun y hy => by
       rcases List.mem_append.1 hy with h | h
       ·exact h3 y h
       ·rw [List.mem_singleton.1 h]; exact ⟨by dsimp only; omega, by dsimp only; omega, by dsimp only; omega, by dsimp only; omega⟩⟩, (by first | omega | (simp only; omega))⟩, rfl⟩ (by simp +contextual -dsimp only [↓SD, SU, simprocAttr, List.length_append, Int.natCast_add]) (by simp +contextual -dsimp only [↓SD, SU, simprocAttr, hsn])
   simp +contextual -dsimp only [↓SD, SU, simprocAttr, hlt, ← hbe, w1, w2, w3, w4]
   refine Ac _ CH ?_
   simp +contextual -dsimp only [↓SD, SU, simprocAttr]
   intro v9
   refine Ac _ CC ?_
   simp +contextual -dsimp only [↓SD, SU, simprocAttr, hw1, q0, q1, q2]
   refine Ad [] (Hj t i (by omega) hlt) (by simp +contextual -dsimp only [↓SD, SU, simprocAttr]) ?_
   rintro r hp' ⟨x, rfl, hx, hx2, rfl⟩
   by_cases hx0 : x = bs []
   ·simp +contextual -dsimp only [↓SD, SU, simprocAttr, hx0]
    refine Ai.post [] ?_
    simp +contextual -dsimp only [↓SD, SU, simprocAttr]
    exact .inl ⟨2, i, rfl, by omega, by omega, rfl⟩
   ·have hx3 := hx2.resolve_left hx0
    simp +contextual -dsimp only [↓SD, SU, simprocAttr, hx0, ht2, hlm]
    refine ⟨by omega, ?_⟩
    refine ⟨⟨by omega, by unfold maxLen; omega⟩, fun v' => ?_⟩
    exact Ai.le ⟨⟨i + x.size, l ++ [(⟨6, 0, x, i⟩ : EI)], v'⟩, ⟨⟨by dsimp only; omega, by simp only [List.length_append, List.length_cons, List.length_nil]; omega, fun y hy => by
     rcases List.mem_append.1 hy with h | h
     ·exact h3 y h
     ·rw [List.mem_singleton.1 h]; exact ⟨by dsimp only; omega, by dsimp only; omega, by dsimp only; omega, by dsimp only; omega⟩⟩, (by first | omega | (simp only; omega))⟩, rfl⟩ (by simp +contextual -dsimp only [↓SD, SU, simprocAttr, List.length_append, Int.natCast_add]) (by simp +contextual -dsimp only [↓SD, SU, simprocAttr, hsn])
end Go.Proofs.YtoffpbehgncakaaGreat
