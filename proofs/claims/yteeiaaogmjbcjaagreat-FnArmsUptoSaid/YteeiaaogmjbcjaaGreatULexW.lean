/-
 TEXT TAKEN APART by the reference, told weakly: some tokens within bounds. Conditions: none.
-/
import Derived.Test.YteeiaaogmjbcjaaGreatUWords
import Derived.Test.YteeiaaogmjbcjaaGreatUJ26
import Derived.Test.YteeiaaogmjbcjaaGreatUJ22
import Derived.Test.YteeiaaogmjbcjaaGreatUJ25
set_option linter.unusedVariables false
set_option linter.unusedSimpArgs false
set_option maxRecDepth 100000
namespace Go.Proofs.YteeiaaogmjbcjaaGreat
open Go.RowKit Go.Proofs.YteeiaaogmjbcjaaGreat.Av Go.Proofs.YteeiaaogmjbcjaaGreat.Ml
open Go.Proofs.YteeiaaogmjbcjaaGreat.Av.AVal (av)

structure EG where
 kind : Int
 n : Int
 s : ByteArray
 pos : Int
 deriving DecidableEq, Inhabited
instance : AVal EG := ⟨fun x => .agg [.int .i64 x.kind, .int .i64 x.n, .str x.s, .int .i64 x.pos], 4, fun _ => rfl, fun _ => rfl, fun x y hy => by
 simp only [AV.cells, List.mem_cons, List.not_mem_nil, or_false] at hy
 rcases hy with rfl | rfl | rfl | rfl <;> first | exact Ap.int _ _ | exact Ap.str _, fun _ _ => rfl, fun x y hy => by
 simp only [AV.cells, List.mem_cons, List.not_mem_nil, or_false] at hy
 rcases hy with rfl | rfl | rfl | rfl <;> rfl⟩
theorem AQ (x : EG) : av x = .agg [.int .i64 x.kind, .int .i64 x.n, .str x.s, .int .i64 x.pos] := eqq rfl
def Aas (m : Nat) (t : EG) : Prop := (1 ≤ t.kind ∧ t.kind ≤ 6) ∧ (-9000000000000000000 ≤ t.n ∧ t.n ≤ 9000000000000000000) ∧ t.s.size ≤ m ∧ 0 ≤ t.pos ∧ t.pos ≤ m
def hasB (t : ByteArray) (i : Int) (s : ByteArray) : Bool := decide (i ≤ t.size - s.size) && decide (t.extract i.toNat (i + s.size).toNat = s)
theorem QC {t : ByteArray} {i : Int} {s : ByteArray} (h : hasB t i s = true) : i + s.size ≤ t.size := by
 unfold hasB at h
 simp only [Bool.and_eq_true, decide_eq_true_eq] at h
 omega
theorem I7 (t : ByteArray) (i : Int) (s : ByteArray) (ht : t.size ≤ 100000) (hs : s.size ≤ 100000) (h0 : 0 ≤ i) (h1 : i ≤ 200000) : AJ Tryz.prog 128 [.str t, .int .i64 i, .str s] (.bool (hasB t i s)) := by
 refine FU.F rfl (by simp; exact ⟨Ap.str _, E0 _, Ap.str _⟩) (Ap.bool _) ?_
 unfold hasB
 by_cases h : i ≤ (t.size : Int) - s.size
 ·simp +contextual -dsimp only [↓SD, SU, simprocAttr, FU, h]
  (repeat' (first | intro _ | refine And.intro ?_ ?_))
  all_goals first | omega | skip
 ·simp +contextual -dsimp only [↓SD, SU, simprocAttr, FU, h]
  (repeat' (first | intro _ | refine And.intro ?_ ?_))
  all_goals first | omega | skip
def P7 (i m : Int) (r : AV) (hp' : Hp) : Prop := ∃ n, r = .int .i64 n ∧ (n = -1 ∨ (i < n ∧ n ≤ m)) ∧ hp' = []
def M3 (s : ByteArray) : Int := if Ih s = true then 3 else if U4 s = true then 4 else if kwL.any (fun x => decide (s = x)) = true then 6 else 0
theorem UR (s : ByteArray) (hs : s.size ≤ 100000) : AJ Tryz.prog 131 [.str s] (.agg [.int .i64 (M3 s), .int .i64 0, .str s, .int .i64 0]) := by
 refine D8.F rfl (by simp; exact Ap.str _) (Ap.agg (by intro x hx; simp only [List.mem_cons, List.not_mem_nil, or_false] at hx; rcases hx with rfl | rfl | rfl | rfl <;> first | exact E0 _ | exact Ap.str _)) ?_
 have C1 := DX s (by omega)
 have C2 := J1 s (by omega)
 have C3 := M0 s
 unfold M3
 cases h1 : Ih s
 ·cases h2 : U4 s
  ·cases h3 : kwL.any (fun x => decide (s = x))
   all_goals
    rw [h1] at C1; rw [h2] at C2; rw [h3] at C3
    simp +contextual -dsimp only [↓SD, SU, simprocAttr, D8]
    intro v v3
    refine Ag _ C1 ?_
    simp +contextual -dsimp only [↓SD, SU, simprocAttr]
    refine Ag _ C2 ?_
    simp +contextual -dsimp only [↓SD, SU, simprocAttr]
    refine Ag _ C3 ?_
    simp +contextual -dsimp only [↓SD, SU, simprocAttr]
  ·rw [h1] at C1; rw [h2] at C2
   simp +contextual -dsimp only [↓SD, SU, simprocAttr, D8]
   intro v v3
   refine Ag _ C1 ?_
   simp +contextual -dsimp only [↓SD, SU, simprocAttr]
   refine Ag _ C2 ?_
   simp +contextual -dsimp only [↓SD, SU, simprocAttr]
 ·rw [h1] at C1
  simp +contextual -dsimp only [↓SD, SU, simprocAttr, D8]
  intro v v3
  refine Ag _ C1 ?_
  simp +contextual -dsimp only [↓SD, SU, simprocAttr]
def Bv (t : EG) : ByteArray := if t.kind = 6 then t.s else bs []
theorem Cy (t : EG) : AJ Tryz.prog 135 [.agg [.int .i64 t.kind, .int .i64 t.n, .str t.s, .int .i64 t.pos]] (.str (Bv t)) := by
 refine FW.F rfl (by simp; exact AVal.clean t) (Ap.str _) ?_
 unfold Bv
 by_cases h : t.kind = 6
 ·simp +contextual -dsimp only [↓SD, SU, simprocAttr, FW, AQ, h]
 ·simp +contextual -dsimp only [↓SD, SU, simprocAttr, FW, AQ, h]
theorem Qv (t : ByteArray) (i : Nat) (ht : t.size ≤ 100000) (hi : i < t.size) (hh : hasB t i (bs [40, 42]) = true) : AH Tryz.prog 129 [.str t, .int .i64 i] [] (P7 i t.size) := by
 refine Gj.H rfl ?_
 have z2 : (bs [40, 42]).size = 2 := rfl
 have z3 : (bs [42, 41]).size = 2 := rfl
 simp +contextual -dsimp only [↓SD, SU, simprocAttr, Gj]
 refine AG (X := Nat × Int) (fun x => ⟨[(0, .str t), (1, .int .i64 x.1), (5, .int .i64 x.2)], []⟩) (fun x => i ≤ x.1 ∧ x.1 ≤ t.size ∧ -200000 ≤ x.2 - x.1 ∧ x.2 ≤ x.1 ∧ -(x.1 : Int) ≤ x.2 ∧ (x.1 = i → x.2 = 0)) (fun x => t.size - x.1) (i, 0) ⟨Nat.le_refl _, by dsimp only; omega, by dsimp only; omega, by dsimp only; omega, by dsimp only; omega, fun _ => rfl⟩ (by simp +contextual -dsimp only [↓SD, SU, simprocAttr]) trivial ?_
 rintro ⟨k, d⟩ ⟨h1, h2, h3, h4, h5, h6⟩
 dsimp only at h1 h2 h3 h4 h5 h6 ⊢
 by_cases hlt : k < t.size
 ·have C1 := I7 t k (bs [40, 42]) (by omega) (by omega) (by omega) (by omega)
  have C2 := I7 t k (bs [42, 41]) (by omega) (by omega) (by omega) (by omega)
  cases hb1 : hasB t k (bs [40, 42]) with
  | true =>
   have hl := QC hb1
   rw [hb1] at C1
   simp +contextual -dsimp only [↓SD, SU, simprocAttr, hlt]
   refine Ag _ C1 ?_
   simp +contextual -dsimp only [↓SD, SU, simprocAttr]
   refine ⟨by omega, by omega, ?_⟩
   exact Ai.le ⟨(k + 2, d + 1), ⟨⟨by dsimp only; omega, by dsimp only; omega, by dsimp only; omega, by dsimp only; omega, by dsimp only; omega, fun h => absurd h (by dsimp only; omega)⟩, (by first | omega | (simp only; omega))⟩, rfl⟩ (by simp +contextual -dsimp only [↓SD, SU, simprocAttr, Int.natCast_add]) trivial
  | false =>
   have hne : k ≠ i := fun e => by rw [e, hh] at hb1; cases hb1
   rw [hb1] at C1
   cases hb2 : hasB t k (bs [42, 41]) with
   | true =>
    have hl := QC hb2
    rw [hb2] at C2
    by_cases h0 : d - 1 = 0
    ·simp +contextual -dsimp only [↓SD, SU, simprocAttr, hlt]
     refine Ag _ C1 ?_
     simp +contextual -dsimp only [↓SD, SU, simprocAttr]
     refine Ag _ C2 ?_
     simp +contextual -dsimp only [↓SD, SU, simprocAttr, h0]
     refine ⟨by omega, ?_⟩
     refine Ai.post [] ?_
     simp +contextual -dsimp only [↓SD, SU, simprocAttr]
     exact ⟨_, rfl, .inr ⟨by omega, by omega⟩, rfl⟩
    ·simp +contextual -dsimp only [↓SD, SU, simprocAttr, hlt]
     refine Ag _ C1 ?_
     simp +contextual -dsimp only [↓SD, SU, simprocAttr]
     refine Ag _ C2 ?_
     simp +contextual -dsimp only [↓SD, SU, simprocAttr, h0]
     refine ⟨by omega, by omega, ?_⟩
     exact Ai.le ⟨(k + 2, d - 1), ⟨⟨by dsimp only; omega, by dsimp only; omega, by dsimp only; omega, by dsimp only; omega, by dsimp only; omega, fun h => absurd h (by dsimp only; omega)⟩, (by first | omega | (simp only; omega))⟩, rfl⟩ (by simp +contextual -dsimp only [↓SD, SU, simprocAttr, Int.natCast_add]) trivial
   | false =>
    rw [hb2] at C2
    simp +contextual -dsimp only [↓SD, SU, simprocAttr, hlt]
    refine Ag _ C1 ?_
    simp +contextual -dsimp only [↓SD, SU, simprocAttr]
    refine Ag _ C2 ?_
    simp +contextual -dsimp only [↓SD, SU, simprocAttr]
    refine ⟨by omega, ?_⟩
    exact Ai.le ⟨(k + 1, d), ⟨⟨by dsimp only; omega, by dsimp only; omega, by dsimp only; omega, by dsimp only; omega, by dsimp only; omega, fun h => absurd h (by dsimp only; omega)⟩, (by first | omega | (simp only; omega))⟩, rfl⟩ (by simp +contextual -dsimp only [↓SD, SU, simprocAttr, Int.natCast_add]) trivial
 ·simp +contextual -dsimp only [↓SD, SU, simprocAttr, hlt]
  refine Ai.post [] ?_
  simp +contextual -dsimp only [↓SD, SU, simprocAttr]
  exact ⟨_, rfl, .inl rfl, rfl⟩
def Jg : List ByteArray := [bs [45, 62], bs [60, 62], bs [60, 61], bs [58, 61], bs [58, 58], bs [40], bs [41], bs [91], bs [93], bs [44], bs [59], bs [124], bs [61], bs [60], bs [43], bs [45], bs [42], bs [47], bs [37], bs [94], bs [33], bs [95]]
theorem YW : ([.str (bs [45, 62]), .str (bs [60, 62]), .str (bs [60, 61]), .str (bs [58, 61]), .str (bs [58, 58]), .str (bs [40]), .str (bs [41]), .str (bs [91]), .str (bs [93]), .str (bs [44]), .str (bs [59]), .str (bs [124]), .str (bs [61]), .str (bs [60]), .str (bs [43]), .str (bs [45]), .str (bs [42]), .str (bs [47]), .str (bs [37]), .str (bs [94]), .str (bs [33]), .str (bs [95])] : List AV) = Jg.map av := rfl
theorem YV : ∀ x ∈ Jg, 1 ≤ x.size ∧ x.size ≤ 2 := by decide +kernel
def Aaw (t : ByteArray) (i : Nat) (r : AV) (hp' : Hp) : Prop := ∃ x : ByteArray, r = .str x ∧ x.size ≤ 2 ∧ (x = bs [] ∨ 1 ≤ x.size ∧ i + x.size ≤ t.size) ∧ hp' = []
theorem He (t : ByteArray) (i : Nat) (ht : t.size ≤ 100000) (hi : i < t.size) : AH Tryz.prog 134 [.str t, .int .i64 i] [] (Aaw t i) := by
 refine HD.H rfl ?_
 simp +contextual -dsimp only [↓SD, SU, simprocAttr, HD, YW, Aa, Ab]
 refine AG (X := Nat) (fun k => ⟨[(0, .str t), (1, .int .i64 i), (7, .sl (Jg.map av)), (8, .int .i64 Jg.length), (9, .int .i64 k)], []⟩) (fun k => k ≤ Jg.length) (fun k => Jg.length - k) 0 (Nat.zero_le _) (by simp +contextual -dsimp only [↓SD, SU, simprocAttr, Aa]) trivial ?_
 intro k hk
 have hsl : Jg.length = 22 := rfl
 by_cases hlt : k < Jg.length
 ·have e := getD_map av Jg k .top hlt
  have hz := YV _ (List.getElem_mem hlt)
  generalize Jg[k] = x at *
  have C := I7 t i x (by omega) (by omega) (by omega) (by omega)
  cases hb : hasB t i x with
  | true =>
   have hl := QC hb
   rw [hb] at C
   simp +contextual -dsimp only [↓SD, SU, simprocAttr, hlt, Aa, e, EU]
   refine Ag _ C ?_
   simp +contextual -dsimp only [↓SD, SU, simprocAttr]
   refine Ai.post [] ?_
   simp +contextual -dsimp only [↓SD, SU, simprocAttr]
   exact ⟨x, rfl, by omega, .inr ⟨by omega, by omega⟩, rfl⟩
  | false =>
   rw [hb] at C
   simp +contextual -dsimp only [↓SD, SU, simprocAttr, hlt, Aa, e, EU]
   refine Ag _ C ?_
   simp +contextual -dsimp only [↓SD, SU, simprocAttr]
   exact ⟨by omega, Ai.le ⟨k + 1, ⟨hlt, (by first | omega | (simp only; omega))⟩, rfl⟩ (by simp +contextual -dsimp only [↓SD, SU, simprocAttr, Int.natCast_add]) trivial⟩
 ·simp +contextual -dsimp only [↓SD, SU, simprocAttr, hlt, Aa]
  refine Ai.post [] ?_
  simp +contextual -dsimp only [↓SD, SU, simprocAttr]
  exact ⟨bs [], rfl, Nat.zero_le _, .inl rfl, rfl⟩
theorem X0 (t : ByteArray) (i : Nat) (ht : t.size ≤ 100000) (hi : i < t.size) : AH Tryz.prog 132 [.str t, .int .i64 i] [] (P7 i (t.size - 1)) := by
 refine It.H rfl ?_
 simp +contextual -dsimp only [↓SD, SU, simprocAttr, It]
 refine ⟨by omega, ?_⟩
 refine AG (X := Nat) (fun k => ⟨[(0, .str t), (1, .int .i64 k)], []⟩) (fun k => i < k ∧ k ≤ t.size + 1) (fun k => t.size + 1 - k) (i + 1) ⟨by omega, by omega⟩ (by simp +contextual -dsimp only [↓SD, SU, simprocAttr, Int.natCast_add]) trivial ?_
 intro k ⟨hk, hk2⟩
 by_cases hlt : k < t.size
 ·by_cases hb : ((AW t k).toNat : Int) = 34
  ·have hge : ¬ (t.size : Int) ≤ k := by omega
   simp +contextual -dsimp only [↓SD, SU, simprocAttr, hlt, hb, hge]
   refine Ai.post [] ?_
   simp +contextual -dsimp only [↓SD, SU, simprocAttr]
   exact ⟨k, rfl, .inr ⟨by omega, by omega⟩, rfl⟩
  ·by_cases hb2 : ((AW t k).toNat : Int) = 92
   ·simp +contextual -dsimp only [↓SD, SU, simprocAttr, hlt, hb, hb2]
    refine ⟨by omega, by omega, ?_⟩
    exact Ai.le ⟨k + 2, ⟨⟨by omega, by omega⟩, (by first | omega | (simp only; omega))⟩, rfl⟩ (by simp +contextual -dsimp only [↓SD, SU, simprocAttr, Int.natCast_add, Int.add_assoc]) trivial
   ·simp +contextual -dsimp only [↓SD, SU, simprocAttr, hlt, hb, hb2]
    refine ⟨by omega, ?_⟩
    exact Ai.le ⟨k + 1, ⟨⟨by omega, by omega⟩, (by first | omega | (simp only; omega))⟩, rfl⟩ (by simp +contextual -dsimp only [↓SD, SU, simprocAttr, Int.natCast_add]) trivial
 ·have hge : (t.size : Int) ≤ k := by omega
  simp +contextual -dsimp only [↓SD, SU, simprocAttr, hlt, hge]
  refine Ai.post [] ?_
  simp +contextual -dsimp only [↓SD, SU, simprocAttr]
  exact ⟨_, rfl, .inl rfl, rfl⟩
def Ku (b : UInt8) : Nat := ((List.range 16).find? fun d => decide (Jd d = b)).getD 0
theorem SH (b : UInt8) : Ku b < 16 := by
 unfold Ku
 cases h : (List.range 16).find? fun d => decide (Jd d = b) with
 | none => decide
 | some d => exact List.mem_range.1 (List.mem_of_find?_eq_some h)
theorem M1 (b : UInt8) : AJ Tryz.prog 148 [.int .u8 (b.toNat : Int)] (.int .i64 (Ku b)) := by
 refine HH.F rfl (by simp; exact pu8 _) (E0 _) ?_
 simp +contextual -dsimp only [↓SD, SU, simprocAttr, HH]
 refine AG (X := Nat) (fun k => ⟨[(0, .int .u8 (b.toNat : Int)), (3, .int .i64 k)], []⟩) (fun k => k ≤ 16 ∧ (List.range 16).find? (fun d => decide (Jd d = b)) = ((List.range 16).drop k).find? (fun d => decide (Jd d = b))) (fun k => 16 - k) 0 ⟨by omega, rfl⟩ (by simp +contextual -dsimp only [↓SD, SU, simprocAttr]) trivial ?_
 intro k ⟨hk, hf⟩
 by_cases hlt : k < 16
 ·have C := KY k hlt
  have hd : (List.range 16).drop k = k :: (List.range 16).drop (k + 1) := by
   rw [List.drop_eq_getElem_cons (by rw [List.length_range]; exact hlt), List.getElem_range]
  rw [hd, List.find?_cons] at hf
  have h16 : (k : Int) < 16 := by omega
  by_cases h : Jd k = b
  ·have hh : Ku b = k := by unfold Ku; rw [hf, decide_eq_true h]; rfl
   rw [h] at C
   simp +contextual -dsimp only [↓SD, SU, simprocAttr, h16]
   refine Ag _ C ?_
   simp +contextual -dsimp only [↓SD, SU, simprocAttr, hh]
  ·have hne : ¬ ((Jd k).toNat : Int) = b.toNat := fun e => h (UInt8.toNat_inj.1 (by omega))
   rw [decide_eq_false h] at hf
   simp +contextual -dsimp only [↓SD, SU, simprocAttr, h16]
   refine Ag _ C ?_
   simp +contextual -dsimp only [↓SD, SU, simprocAttr, hne]
   exact ⟨by omega, Ai.le ⟨k + 1, ⟨⟨hlt, hf⟩, (by first | omega | (simp only; omega))⟩, rfl⟩ (by simp +contextual -dsimp only [↓SD, SU, simprocAttr, Int.natCast_add]) trivial⟩
 ·obtain rfl : k = 16 := by omega
  have hh : Ku b = 0 := by unfold Ku; rw [hf]; rfl
  simp +contextual -dsimp only [↓SD, SU, simprocAttr, hh]
def Abo (m : Nat) (r : AV) (hp' : Hp) : Prop := ∃ (x : ByteArray) (b : Bool), r = .tup [.str x, .bool b] ∧ x.size ≤ m ∧ hp' = []
structure UqS where
 i : Nat
 l : List UInt8
 v : Nat
theorem Vl (t : ByteArray) (ht : t.size ≤ 100000) : AH Tryz.prog 133 [.str t] [] (Abo t.size) := by
 refine HI.H rfl ?_
 simp +contextual -dsimp only [↓SD, SU, simprocAttr, HI]
 intro v
 refine AG (X := UqS) (fun x => ⟨[(0, .str t), (4, .row 6 x.v x.l.length), (5, .int .i64 x.i)], [(6, ⟨x.v, false, 5, 1, x.l.map av⟩)]⟩) (fun x => 1 ≤ x.i ∧ x.l.length + 1 ≤ x.i ∧ x.l.length ≤ t.size) (fun x => t.size - x.i) ⟨1, [], v⟩ ⟨Nat.le_refl _, Nat.le_refl _, Nat.zero_le _⟩ (by simp +contextual -dsimp only [↓SD, SU, simprocAttr]) (by simp +contextual -dsimp only [↓SD, SU, simprocAttr]) ?_
 rintro ⟨i, l, u⟩ ⟨h1, h2, h3⟩
 dsimp only at h1 h2 h3 ⊢
 have hlm : (l.map (av : UInt8 → AV)).length = l.length := List.length_map _
 have ht2 : List.take l.length (l.map (av : UInt8 → AV)) = l.map av := List.take_of_length_le (by simp)
 have hsn : ∀ b : UInt8, (l ++ [b]).map (av : UInt8 → AV) = l.map av ++ [.int .u8 (b.toNat : Int)] := fun b => by rw [List.map_append]; rfl
 by_cases hlt : (i : Int) < t.size - 1
 ·have hi : i < t.size := by omega
  by_cases hb : ((AW t i).toNat : Int) = 92
  ·have hi1 : i + 1 < t.size := by omega
   have hi2 : (i : Int) + 1 < t.size := by omega
   have hi3 : (0 : Int) ≤ i + 1 := by omega
   have ht1 : ((i : Int) + 1).toNat = i + 1 := by omega
   by_cases hn : ((AW t (i + 1)).toNat : Int) = 110
   ·simp +contextual -dsimp only [↓SD, SU, simprocAttr, hlt, hi, hb, ht2, hlm, hi2, hi3, ht1, hn]
    refine ⟨by omega, by omega, ⟨by omega, by unfold maxLen; omega⟩, fun v' => ⟨by omega, ?_⟩⟩
    exact Ai.le ⟨⟨i + 2, l ++ [10], v'⟩, ⟨⟨by dsimp only; omega, by simp only [List.length_append, List.length_cons, List.length_nil]; omega, by simp only [List.length_append, List.length_cons, List.length_nil]; omega⟩, (by first | omega | (simp only; omega))⟩, rfl⟩ (by simp +contextual -dsimp only [↓SD, SU, simprocAttr, List.length_append, Int.natCast_add, Int.add_assoc]) (by simp +contextual -dsimp only [↓SD, SU, simprocAttr, hsn])
   by_cases hx : ((AW t (i + 1)).toNat : Int) = 120 ∧ (i : Int) + 1 + 2 < t.size
   ·obtain ⟨hx1, hx2⟩ := hx
    have hx3 : (i : Int) + 1 + 1 < t.size := by omega
    have hx4 : (0 : Int) ≤ i + 1 + 1 := by omega
    have hx5 : (0 : Int) ≤ i + 1 + 2 := by omega
    have ht3 : ((i : Int) + 1 + 1).toNat = i + 2 := by omega
    have ht4 : ((i : Int) + 1 + 2).toNat = i + 3 := by omega
    have C1 := M1 (AW t (i + 2))
    have C2 := M1 (AW t (i + 3))
    have b1 := SH (AW t (i + 2))
    have b2 := SH (AW t (i + 3))
    generalize Ku (AW t (i + 2)) = p at *
    generalize Ku (AW t (i + 3)) = q at *
    simp +contextual -dsimp only [↓SD, SU, simprocAttr, hlt, hi, hb, ht2, hlm, hi2, hi3, ht1, hn, hx1, hx2, hx3, hx4, ht3]
    refine ⟨by omega, by omega, by omega, by omega, ?_⟩
    refine Ag _ C1 ?_
    simp +contextual -dsimp only [↓SD, SU, simprocAttr, hx2, hx5, ht4]
    refine ⟨by omega, by omega, ?_⟩
    refine Ag _ C2 ?_
    simp +contextual -dsimp only [↓SD, SU, simprocAttr, ht2, hlm]
    have e1 : (16 : Int) * p + q = ((UInt8.ofNat (16 * p + q)).toNat : Int) := by rw [UInt8.toNat_ofNat', Nat.mod_eq_of_lt (by omega)]; omega
    refine ⟨by omega, by omega, ⟨by omega, by unfold maxLen; omega⟩, fun v' => ⟨by omega, by omega, ?_⟩⟩
    exact Ai.le ⟨⟨i + 4, l ++ [UInt8.ofNat (16 * p + q)], v'⟩, ⟨⟨by dsimp only; omega, by simp only [List.length_append, List.length_cons, List.length_nil]; omega, by simp only [List.length_append, List.length_cons, List.length_nil]; omega⟩, (by first | omega | (simp only; omega))⟩, rfl⟩ (by simp +contextual -dsimp only [↓SD, SU, simprocAttr, List.length_append, Int.natCast_add, Int.add_assoc]) (by simp +contextual -dsimp only [↓SD, SU, simprocAttr, hsn, ← e1])
   ·by_cases hx1 : ((AW t (i + 1)).toNat : Int) = 120
    ·have hx2 : ¬ (i : Int) + 1 + 2 < t.size := fun h => hx ⟨hx1, h⟩
     simp +contextual -dsimp only [↓SD, SU, simprocAttr, hlt, hi, hb, ht2, hlm, hi2, hi3, ht1, hn, hx1, hx2]
     refine ⟨by omega, by omega, by omega, ⟨by omega, by unfold maxLen; omega⟩, fun v' => ⟨by omega, ?_⟩⟩
     exact Ai.le ⟨⟨i + 2, l ++ [AW t (i + 1)], v'⟩, ⟨⟨by dsimp only; omega, by simp only [List.length_append, List.length_cons, List.length_nil]; omega, by simp only [List.length_append, List.length_cons, List.length_nil]; omega⟩, (by first | omega | (simp only; omega))⟩, rfl⟩ (by simp +contextual -dsimp only [↓SD, SU, simprocAttr, List.length_append, Int.natCast_add, Int.add_assoc]) (by simp +contextual -dsimp only [↓SD, SU, simprocAttr, hsn, hx1])
    ·simp +contextual -dsimp only [↓SD, SU, simprocAttr, hlt, hi, hb, ht2, hlm, hi2, hi3, ht1, hn, hx1]
     refine ⟨by omega, by omega, ⟨by omega, by unfold maxLen; omega⟩, fun v' => ⟨by omega, ?_⟩⟩
     exact Ai.le ⟨⟨i + 2, l ++ [AW t (i + 1)], v'⟩, ⟨⟨by dsimp only; omega, by simp only [List.length_append, List.length_cons, List.length_nil]; omega, by simp only [List.length_append, List.length_cons, List.length_nil]; omega⟩, (by first | omega | (simp only; omega))⟩, rfl⟩ (by simp +contextual -dsimp only [↓SD, SU, simprocAttr, List.length_append, Int.natCast_add, Int.add_assoc]) (by simp +contextual -dsimp only [↓SD, SU, simprocAttr, hsn, hx1])
  ·simp +contextual -dsimp only [↓SD, SU, simprocAttr, hlt, hi, hb, ht2, hlm]
   refine ⟨by omega, ⟨by omega, by unfold maxLen; omega⟩, fun v' => ⟨by omega, ?_⟩⟩
   exact Ai.le ⟨⟨i + 1, l ++ [AW t i], v'⟩, ⟨⟨by dsimp only; omega, by simp only [List.length_append, List.length_cons, List.length_nil]; omega, by simp only [List.length_append, List.length_cons, List.length_nil]; omega⟩, (by first | omega | (simp only; omega))⟩, rfl⟩ (by simp +contextual -dsimp only [↓SD, SU, simprocAttr, List.length_append, Int.natCast_add]) (by simp +contextual -dsimp only [↓SD, SU, simprocAttr, hsn])
 ·have hsz : (⟨l.toArray⟩ : ByteArray).size = l.length := by show (List.toArray _).size = _; simp
  have CQ := Qb ⟨l.toArray⟩ (by omega)
  simp +contextual -dsimp only [↓SD, SU, simprocAttr, hlt]
  refine ⟨by omega, ?_⟩
  refine NI _ _ (es := l.map av) l (by simp [Ej, Aw, ht2]) (List.map_congr_left fun b _ => by rw [Xg]) ?_
  simp +contextual -dsimp only [↓SD, SU, simprocAttr]
  refine Ag _ CQ ?_
  by_cases hq : Uy ⟨l.toArray⟩ = t
  ·simp +contextual -dsimp only [↓SD, SU, simprocAttr, hq]
   refine NI _ _ (es := l.map av) l (by simp [Ej, Aw, ht2]) (List.map_congr_left fun b _ => by rw [Xg]) ?_
   simp +contextual -dsimp only [↓SD, SU, simprocAttr]
   refine Ai.post [] ?_
   simp +contextual -dsimp only [↓SD, SU, simprocAttr]
   exact ⟨_, _, rfl, by omega, rfl⟩
  ·simp +contextual -dsimp only [↓SD, SU, simprocAttr, hq]
   refine Ai.post [] ?_
   simp +contextual -dsimp only [↓SD, SU, simprocAttr]
   exact ⟨_, _, rfl, Nat.zero_le _, rfl⟩
theorem XF (s : ByteArray) : (∃ n : Int, HV s = .tup [.int .i64 n, .bool true] ∧ -9000000000000000000 ≤ n ∧ n ≤ 9000000000000000000) ∨ HV s = .tup [.int .i64 0, .bool false] := by
 have hd : ∀ (l : List UInt8) (n k : Nat), n ≤ 5000000000000000009 → Gw l n = some k → k ≤ 5000000000000000009 := by
  intro l
  induction l with
  | nil => intro n k hn h; cases h; exact hn
  | cons b l ih =>
   intro n k hn h
   rw [Gw] at h
   split at h
   ·rename_i hb; exact ih _ k (by omega) h
   ·cases h
 cases h : HW s with
 | none => exact .inr (HU s h)
 | some n =>
  refine .inl ⟨n, Ou s n h, ?_⟩
  unfold HW at h
  split at h
  ·cases h
  split at h
  ·cases h
  rename_i k hk
  have := hd _ _ _ (by omega) hk
  by_cases hm : minus s = 1
  ·rw [if_pos hm] at h
   split at h
   ·have e := Option.some.inj h
    omega
   ·cases h
  ·rw [if_neg hm] at h
   split at h
   ·have e := Option.some.inj h
    omega
   ·cases h
def Abr (m : Nat) (r : AV) (hp' : Hp) : Prop := (∃ c p : Int, r = .tup [.Au, .int .i64 c, .int .i64 p] ∧ (0 < c ∧ c ≤ 100) ∧ (0 ≤ p ∧ p ≤ m) ∧ hp' = []) ∨ ∃ l : List EG, r = .tup [.sl (l.map av), .int .i64 0, .int .i64 0] ∧ l.length ≤ m ∧ (∀ x ∈ l, Aas m x) ∧ hp' = []
structure LxS where
 i : Nat
 l : List EG
 v : Nat
set_option maxHeartbeats 4000000 in
theorem Aca (t : ByteArray) (ht : t.size ≤ 100000) : AH Tryz.prog 111 [.str t] [] (Abr t.size) := by
 refine Iy.H rfl ?_
 by_cases hbig : (4000 : Int) < t.size
 ·simp +contextual -dsimp only [↓SD, SU, simprocAttr, Iy, hbig]
  refine Ai.post [] ?_
  simp +contextual -dsimp only [↓SD, SU, simprocAttr]
  exact .inl ⟨1, 0, rfl, by omega, by omega, rfl⟩
 simp +contextual -dsimp only [↓SD, SU, simprocAttr, Iy, hbig]
 intro v
 refine AG (X := LxS) (fun x => ⟨[(0, .str t), (5, .row 20 x.v x.l.length), (6, .int .i64 x.i)], [(20, ⟨x.v, false, 197, 4, x.l.map av⟩)]⟩) (fun x => x.i ≤ t.size ∧ x.l.length ≤ x.i ∧ ∀ y ∈ x.l, Aas t.size y) (fun x => t.size - x.i) ⟨0, [], v⟩ ⟨Nat.zero_le _, Nat.le_refl _, fun y hy => by cases hy⟩ (by simp +contextual -dsimp only [↓SD, SU, simprocAttr]) (by simp +contextual -dsimp only [↓SD, SU, simprocAttr]) ?_
 rintro ⟨i, l, u⟩ ⟨h1, h2, h3⟩
 dsimp only at h1 h2 h3 ⊢
 have hlm : (l.map (av : EG → AV)).length = l.length := List.length_map _
 have ht2 : List.take l.length (l.map (av : EG → AV)) = l.map av := List.take_of_length_le (by simp)
 have hsn : ∀ b : EG, (l ++ [b]).map (av : EG → AV) = l.map av ++ [.agg [.int .i64 b.kind, .int .i64 b.n, .str b.s, .int .i64 b.pos]] := fun b => by rw [List.map_append]; rfl
 by_cases hlt : i < t.size
 case neg =>
  simp +contextual -dsimp only [↓SD, SU, simprocAttr, hlt]
  refine Ai.frz 20 (Ai.post [] ?_)
  simp +contextual -dsimp only [↓SD, SU, simprocAttr, Ab, ht2, hlm, Nat.le_refl]
  exact .inr ⟨l, rfl, by omega, h3, rfl⟩
 have hb8 := b8 t i
 have hlt' : (i : Int) < t.size := by omega
 have CC := NA ((AW t i).toNat : Int) (by omega) (by omega)
 obtain ⟨b, hbe⟩ : ∃ b, b = AW t i := ⟨_, rfl⟩
 rw [← hbe] at CC hb8
 by_cases hws : (b.toNat : Int) = 9 ∨ (b.toNat : Int) = 10 ∨ (b.toNat : Int) = 13 ∨ (b.toNat : Int) = 32
 ·rcases hws with h | h | h | h
  all_goals
   simp +contextual -dsimp only [↓SD, SU, simprocAttr, hlt, ← hbe, h]
   refine ⟨by omega, ?_⟩
   exact Ai.le ⟨⟨i + 1, l, u⟩, ⟨⟨by dsimp only; omega, by dsimp only; omega, h3⟩, (by first | omega | (simp only; omega))⟩, rfl⟩ (by simp +contextual -dsimp only [↓SD, SU, simprocAttr, Int.natCast_add]) (by simp +contextual -dsimp only [↓SD, SU, simprocAttr])
 have w1 : ¬ (b.toNat : Int) = 9 := fun h => hws (.inl h)
 have w2 : ¬ (b.toNat : Int) = 10 := fun h => hws (.inr (.inl h))
 have w3 : ¬ (b.toNat : Int) = 13 := fun h => hws (.inr (.inr (.inl h)))
 have w4 : ¬ (b.toNat : Int) = 32 := fun h => hws (.inr (.inr (.inr h)))
 have CH := I7 t i (bs [40, 42]) (by omega) (by decide) (by omega) (by omega)
 cases hh : hasB t i (bs [40, 42]) with
 | true =>
  rw [hh] at CH
  simp +contextual -dsimp only [↓SD, SU, simprocAttr, hlt, ← hbe, w1, w2, w3, w4]
  refine Ag _ CH ?_
  simp +contextual -dsimp only [↓SD, SU, simprocAttr]
  refine Ac [] (Qv t i (by omega) hlt hh) (by simp +contextual -dsimp only [↓SD, SU, simprocAttr]) ?_
  rintro r hp' ⟨n, rfl, hn, rfl⟩
  by_cases hn0 : n < 0
  ·simp +contextual -dsimp only [↓SD, SU, simprocAttr, hn0]
   refine Ai.post [] ?_
   simp +contextual -dsimp only [↓SD, SU, simprocAttr]
   exact .inl ⟨6, i, rfl, by omega, by omega, rfl⟩
  ·simp +contextual -dsimp only [↓SD, SU, simprocAttr, hn0]
   exact Ai.le ⟨⟨n.toNat, l, u⟩, ⟨⟨by dsimp only; omega, by dsimp only; omega, h3⟩, (by first | omega | (simp only; omega))⟩, rfl⟩ (by simp +contextual -dsimp only [↓SD, SU, simprocAttr, show ((n.toNat : Nat) : Int) = n by omega]) (by simp +contextual -dsimp only [↓SD, SU, simprocAttr])
 | false =>
  rw [hh] at CH
  by_cases hw : 0 < cls b.toNat ∧ ¬ (b.toNat : Int) = 95
  ·obtain ⟨hw1, hw2⟩ := hw
   simp +contextual -dsimp only [↓SD, SU, simprocAttr, hlt, ← hbe, w1, w2, w3, w4]
   refine Ag _ CH ?_
   simp +contextual -dsimp only [↓SD, SU, simprocAttr]
   intro v9
   refine Ag _ CC ?_
   simp +contextual -dsimp only [↓SD, SU, simprocAttr, hw1, hw2]
   refine AG (X := Nat) (fun k => ⟨[(0, .str t), (5, .row 20 u l.length), (6, .int .i64 i), (7, .int .u8 (b.toNat : Int)), (9, .ptr 9 v9 0 0), (10, .int .i64 k)], [(20, ⟨u, false, 197, 4, l.map av⟩), (9, ⟨v9, false, 197, 4, [.agg [.int .i64 0, .int .i64 0, .str (bs []), .int .i64 0]]⟩)]⟩) (fun k => i ≤ k ∧ k ≤ t.size) (fun k => t.size - k) i ⟨Nat.le_refl _, by omega⟩ (by simp +contextual -dsimp only [↓SD, SU, simprocAttr]) (by simp +contextual -dsimp only [↓SD, SU, simprocAttr]) ?_
   intro k ⟨hk1, hk2⟩
   by_cases hk3 : k < t.size
   case' pos =>
    have b8k := b8 t k
    have CK := NA ((AW t k).toNat : Int) (by omega) (by omega)
    by_cases hk4 : 0 < cls (AW t k).toNat
    case' pos =>
     simp +contextual -dsimp only [↓SD, SU, simprocAttr, hk3]
     refine Ag _ CK ?_
     simp +contextual -dsimp only [↓SD, SU, simprocAttr, hk4]
     refine ⟨by omega, ?_⟩
     exact Ai.le ⟨k + 1, ⟨⟨by omega, by omega⟩, (by first | omega | (simp only; omega))⟩, rfl⟩ (by simp +contextual -dsimp only [↓SD, SU, simprocAttr, Int.natCast_add]) (by simp +contextual -dsimp only [↓SD, SU, simprocAttr])
    case' neg =>
     have hki : i < k := by
      rcases Nat.lt_or_ge i k with h | h
      ·exact h
      ·obtain rfl : k = i := by omega
       rw [← hbe] at hk4; exact absurd hw1 hk4
     simp +contextual -dsimp only [↓SD, SU, simprocAttr, hk3]
     refine Ag _ CK ?_
     simp +contextual -dsimp only [↓SD, SU, simprocAttr, hk4]
   case' neg =>
    have hki : i < k := by omega
    simp +contextual -dsimp only [↓SD, SU, simprocAttr, hk3]
   all_goals
    have hex : (t.extract i k).size ≤ t.size := by rw [ByteArray.size_extract]; omega
    have hik : (i : Int) ≤ k := by omega
    have hkt : (k : Int) ≤ t.size := by omega
    refine Ag _ CC ?_
    by_cases h3c : cls b.toNat = 3
    ·simp +contextual -dsimp only [↓SD, SU, simprocAttr, h3c, hik, hkt]
     refine Ag _ (Mi (t.extract i k)) ?_
     rcases XF (t.extract i k) with ⟨n, e, hn⟩ | e
     ·rw [e]
      simp +contextual -dsimp only [↓SD, SU, simprocAttr, ht2, hlm]
      refine ⟨⟨by omega, by unfold maxLen; omega⟩, fun v' => ?_⟩
      exact Ai.le ⟨⟨k, l ++ [(⟨1, n, bs [], i⟩ : EG)], v'⟩, ⟨⟨by dsimp only; omega, by simp only [List.length_append, List.length_cons, List.length_nil]; omega, fun y hy => by
       rcases List.mem_append.1 hy with h | h
       ·exact h3 y h
       ·rw [List.mem_singleton.1 h]; exact ⟨by dsimp only; omega, by dsimp only; omega, Nat.zero_le _, by dsimp only; omega⟩⟩, (by first | omega | (simp only; omega))⟩, rfl⟩ (by simp +contextual -dsimp only [↓SD, SU, simprocAttr, List.length_append, Int.natCast_add]) (by simp +contextual -dsimp only [↓SD, SU, simprocAttr, hsn])
     ·rw [e]
      simp +contextual -dsimp only [↓SD, SU, simprocAttr]
      refine Ai.post [] ?_
      simp +contextual -dsimp only [↓SD, SU, simprocAttr]
      exact .inl ⟨3, i, rfl, by omega, by omega, rfl⟩
    ·simp +contextual -dsimp only [↓SD, SU, simprocAttr, h3c, hik, hkt]
     refine Ag _ (UR (t.extract i k) (by omega)) ?_
     by_cases hkw : M3 (t.extract i k) = 0
     ·simp +contextual -dsimp only [↓SD, SU, simprocAttr, hkw]
      refine Ai.post [] ?_
      simp +contextual -dsimp only [↓SD, SU, simprocAttr]
      exact .inl ⟨5, i, rfl, by omega, by omega, rfl⟩
     ·have hkk : 1 ≤ M3 (t.extract i k) ∧ M3 (t.extract i k) ≤ 6 := by
       unfold M3 at hkw ⊢
       split at hkw <;> (try split at hkw) <;> (try split at hkw) <;> simp_all
      simp +contextual -dsimp only [↓SD, SU, simprocAttr, hkw, ht2, hlm]
      refine ⟨⟨by omega, by unfold maxLen; omega⟩, fun v' => ?_⟩
      exact Ai.le ⟨⟨k, l ++ [(⟨M3 (t.extract i k), 0, t.extract i k, i⟩ : EG)], v'⟩, ⟨⟨by dsimp only; omega, by simp only [List.length_append, List.length_cons, List.length_nil]; omega, fun y hy => by
       rcases List.mem_append.1 hy with h | h
       ·exact h3 y h
       ·rw [List.mem_singleton.1 h]; exact ⟨hkk, by dsimp only; omega, hex, by dsimp only; omega⟩⟩, (by first | omega | (simp only; omega))⟩, rfl⟩ (by simp +contextual -dsimp only [↓SD, SU, simprocAttr, List.length_append, Int.natCast_add]) (by simp +contextual -dsimp only [↓SD, SU, simprocAttr, hsn])
  ·have c34 : cls 34 = 0 := rfl
   have c39 : cls 39 = 0 := rfl
   have c95 : cls 95 = 3 := rfl
   by_cases q0 : (b.toNat : Int) = 95
   ·have hw1 : 0 < cls b.toNat := by rw [q0]; decide
    simp +contextual -dsimp only [↓SD, SU, simprocAttr, hlt, ← hbe, w1, w2, w3, w4]
    refine Ag _ CH ?_
    simp +contextual -dsimp only [↓SD, SU, simprocAttr]
    intro v9
    refine Ag _ CC ?_
    simp +contextual -dsimp only [↓SD, SU, simprocAttr, hw1, q0, c95]
    refine Ac [] (He t i (by omega) hlt) (by simp +contextual -dsimp only [↓SD, SU, simprocAttr]) ?_
    rintro r hp' ⟨x, rfl, hx, hx2, rfl⟩
    by_cases hx0 : x = bs []
    ·simp +contextual -dsimp only [↓SD, SU, simprocAttr, hx0]
     refine Ai.post [] ?_
     simp +contextual -dsimp only [↓SD, SU, simprocAttr]
     exact .inl ⟨2, i, rfl, by omega, by omega, rfl⟩
    ·have hx3 := hx2.resolve_left hx0
     simp +contextual -dsimp only [↓SD, SU, simprocAttr, hx0, ht2, hlm]
     refine ⟨by omega, ?_⟩
     refine ⟨⟨by omega, by unfold maxLen; omega⟩, fun v' => ?_⟩
     exact Ai.le ⟨⟨i + x.size, l ++ [(⟨6, 0, x, i⟩ : EG)], v'⟩, ⟨⟨by dsimp only; omega, by simp only [List.length_append, List.length_cons, List.length_nil]; omega, fun y hy => by
      rcases List.mem_append.1 hy with h | h
      ·exact h3 y h
      ·rw [List.mem_singleton.1 h]; exact ⟨by dsimp only; omega, by dsimp only; omega, by dsimp only; omega, by dsimp only; omega⟩⟩, (by first | omega | (simp only; omega))⟩, rfl⟩ (by simp +contextual -dsimp only [↓SD, SU, simprocAttr, List.length_append, Int.natCast_add]) (by simp +contextual -dsimp only [↓SD, SU, simprocAttr, hsn])
   have hw1 : ¬ 0 < cls b.toNat := fun h => hw ⟨h, q0⟩
   by_cases q1 : (b.toNat : Int) = 34
   ·simp +contextual -dsimp only [↓SD, SU, simprocAttr, hlt, ← hbe, w1, w2, w3, w4]
    refine Ag _ CH ?_
    simp +contextual -dsimp only [↓SD, SU, simprocAttr]
    intro v9
    refine Ag _ CC ?_
    simp +contextual -dsimp only [↓SD, SU, simprocAttr, q1, c34]
    refine Ac [] (X0 t i (by omega) hlt) (by simp +contextual -dsimp only [↓SD, SU, simprocAttr]) ?_
    rintro r hp' ⟨n, rfl, hn, rfl⟩
    by_cases hn0 : n < 0
    ·simp +contextual -dsimp only [↓SD, SU, simprocAttr, hn0]
     refine Ai.post [] ?_
     simp +contextual -dsimp only [↓SD, SU, simprocAttr]
     exact .inl ⟨4, i, rfl, by omega, by omega, rfl⟩
    ·have hin : (i : Int) ≤ n + 1 := by omega
     have hn00 : (0 : Int) ≤ n + 1 := by omega
     have hnt : n + 1 ≤ (t.size : Int) := by omega
     have hex : (t.extract i (n + 1).toNat).size ≤ t.size := by rw [ByteArray.size_extract]; omega
     simp +contextual -dsimp only [↓SD, SU, simprocAttr, hn0, hin, hnt, hn00]
     refine ⟨by omega, ?_⟩
     refine Ac [] (Vl (t.extract i (n + 1).toNat) (by omega)) (by simp +contextual -dsimp only [↓SD, SU, simprocAttr]) ?_
     rintro r hp' ⟨x, bb, rfl, hx, rfl⟩
     cases bb
     ·simp +contextual -dsimp only [↓SD, SU, simprocAttr]
      refine Ai.post [] ?_
      simp +contextual -dsimp only [↓SD, SU, simprocAttr]
      exact .inl ⟨4, i, rfl, by omega, by omega, rfl⟩
     ·simp +contextual -dsimp only [↓SD, SU, simprocAttr, ht2, hlm]
      refine ⟨by omega, ?_⟩
      refine ⟨⟨by omega, by unfold maxLen; omega⟩, fun v' => ?_⟩
      exact Ai.le ⟨⟨(n + 1).toNat, l ++ [(⟨2, 0, x, i⟩ : EG)], v'⟩, ⟨⟨by dsimp only; omega, by simp only [List.length_append, List.length_cons, List.length_nil]; omega, fun y hy => by
       rcases List.mem_append.1 hy with h | h
       ·exact h3 y h
       ·rw [List.mem_singleton.1 h]; exact ⟨by dsimp only; omega, by dsimp only; omega, by dsimp only; omega, by dsimp only; omega⟩⟩, (by first | omega | (simp only; omega))⟩, rfl⟩ (by simp +contextual -dsimp only [↓SD, SU, simprocAttr, List.length_append, Int.natCast_add, show (((n + 1).toNat : Nat) : Int) = n + 1 by omega]) (by simp +contextual -dsimp only [↓SD, SU, simprocAttr, hsn, show (((n + 1).toNat : Nat) : Int) = n + 1 by omega])
   by_cases q2 : (b.toNat : Int) = 39
   ·by_cases q3 : (i : Int) + 1 < t.size
    ·have q4 : (0 : Int) ≤ i + 1 := by omega
     have q5 : ((i : Int) + 1).toNat = i + 1 := by omega
     have bk := b8 t (i + 1)
     have CD := NA ((AW t (i + 1)).toNat : Int) (by omega) (by omega)
     by_cases q6 : cls (AW t (i + 1)).toNat = 1
     ·have q7 : 97 ≤ ((AW t (i + 1)).toNat : Int) := by
       unfold cls at q6
       split at q6
       ·omega
       split at q6
       ·cases q6
       split at q6 <;> cases q6
      simp +contextual -dsimp only [↓SD, SU, simprocAttr, hlt, ← hbe, w1, w2, w3, w4]
      refine Ag _ CH ?_
      simp +contextual -dsimp only [↓SD, SU, simprocAttr]
      intro v9
      refine Ag _ CC ?_
      simp +contextual -dsimp only [↓SD, SU, simprocAttr, q2, c39, q3, q4, q5]
      refine ⟨by omega, by omega, ?_⟩
      refine Ag _ CD ?_
      simp +contextual -dsimp only [↓SD, SU, simprocAttr, q6, q3, q4, q5, ht2, hlm]
      refine ⟨by omega, by omega, by omega, by omega, ?_⟩
      refine ⟨⟨by omega, by unfold maxLen; omega⟩, fun v' => ?_⟩
      exact Ai.le ⟨⟨i + 2, l ++ [(⟨5, ((AW t (i + 1)).toNat : Int) - 97, bs [], i⟩ : EG)], v'⟩, ⟨⟨by dsimp only; omega, by simp only [List.length_append, List.length_cons, List.length_nil]; omega, fun y hy => by
       rcases List.mem_append.1 hy with h | h
       ·exact h3 y h
       ·rw [List.mem_singleton.1 h]; exact ⟨by dsimp only; omega, by dsimp only; omega, Nat.zero_le _, by dsimp only; omega⟩⟩, (by first | omega | (simp only; omega))⟩, rfl⟩ (by simp +contextual -dsimp only [↓SD, SU, simprocAttr, List.length_append, Int.natCast_add]) (by simp +contextual -dsimp only [↓SD, SU, simprocAttr, hsn])
     ·simp +contextual -dsimp only [↓SD, SU, simprocAttr, hlt, ← hbe, w1, w2, w3, w4]
      refine Ag _ CH ?_
      simp +contextual -dsimp only [↓SD, SU, simprocAttr]
      intro v9
      refine Ag _ CC ?_
      simp +contextual -dsimp only [↓SD, SU, simprocAttr, q2, c39, q3, q4, q5]
      refine ⟨by omega, by omega, ?_⟩
      refine Ag _ CD ?_
      simp +contextual -dsimp only [↓SD, SU, simprocAttr, q6]
      refine Ac [] (He t i (by omega) hlt) (by simp +contextual -dsimp only [↓SD, SU, simprocAttr]) ?_
      rintro r hp' ⟨x, rfl, hx, hx2, rfl⟩
      by_cases hx0 : x = bs []
      ·simp +contextual -dsimp only [↓SD, SU, simprocAttr, hx0]
       refine Ai.post [] ?_
       simp +contextual -dsimp only [↓SD, SU, simprocAttr]
       exact .inl ⟨2, i, rfl, by omega, by omega, rfl⟩
      ·have hx3 := hx2.resolve_left hx0
       simp +contextual -dsimp only [↓SD, SU, simprocAttr, hx0, ht2, hlm]
       refine ⟨by omega, ?_⟩
       refine ⟨⟨by omega, by unfold maxLen; omega⟩, fun v' => ?_⟩
       exact Ai.le ⟨⟨i + x.size, l ++ [(⟨6, 0, x, i⟩ : EG)], v'⟩, ⟨⟨by dsimp only; omega, by simp only [List.length_append, List.length_cons, List.length_nil]; omega, fun y hy => by
        rcases List.mem_append.1 hy with h | h
        ·exact h3 y h
        ·rw [List.mem_singleton.1 h]; exact ⟨by dsimp only; omega, by dsimp only; omega, by dsimp only; omega, by dsimp only; omega⟩⟩, (by first | omega | (simp only; omega))⟩, rfl⟩ (by simp +contextual -dsimp only [↓SD, SU, simprocAttr, List.length_append, Int.natCast_add]) (by simp +contextual -dsimp only [↓SD, SU, simprocAttr, hsn])
    ·simp +contextual -dsimp only [↓SD, SU, simprocAttr, hlt, ← hbe, w1, w2, w3, w4]
     refine Ag _ CH ?_
     simp +contextual -dsimp only [↓SD, SU, simprocAttr]
     intro v9
     refine Ag _ CC ?_
     simp +contextual -dsimp only [↓SD, SU, simprocAttr, q2, c39, q3]
     refine ⟨by omega, ?_⟩
     refine Ac [] (He t i (by omega) hlt) (by simp +contextual -dsimp only [↓SD, SU, simprocAttr]) ?_
     rintro r hp' ⟨x, rfl, hx, hx2, rfl⟩
     by_cases hx0 : x = bs []
     ·simp +contextual -dsimp only [↓SD, SU, simprocAttr, hx0]
      refine Ai.post [] ?_
      simp +contextual -dsimp only [↓SD, SU, simprocAttr]
      exact .inl ⟨2, i, rfl, by omega, by omega, rfl⟩
     ·have hx3 := hx2.resolve_left hx0
      simp +contextual -dsimp only [↓SD, SU, simprocAttr, hx0, ht2, hlm]
      refine ⟨by omega, ?_⟩
      refine ⟨⟨by omega, by unfold maxLen; omega⟩, fun v' => ?_⟩
      exact Ai.le ⟨⟨i + x.size, l ++ [(⟨6, 0, x, i⟩ : EG)], v'⟩, ⟨⟨by dsimp only; omega, by simp only [List.length_append, List.length_cons, List.length_nil]; omega, fun y hy => by
       rcases List.mem_append.1 hy with h | h
       ·exact h3 y h
       ·rw [List.mem_singleton.1 h]; exact ⟨by dsimp only; omega, by dsimp only; omega, by dsimp only; omega, by dsimp only; omega⟩⟩, (by first | omega | (simp only; omega))⟩, rfl⟩ (by simp +contextual -dsimp only [↓SD, SU, simprocAttr, List.length_append, Int.natCast_add]) (by simp +contextual -dsimp only [↓SD, SU, simprocAttr, hsn])
   simp +contextual -dsimp only [↓SD, SU, simprocAttr, hlt, ← hbe, w1, w2, w3, w4]
   refine Ag _ CH ?_
   simp +contextual -dsimp only [↓SD, SU, simprocAttr]
   intro v9
   refine Ag _ CC ?_
   simp +contextual -dsimp only [↓SD, SU, simprocAttr, hw1, q0, q1, q2]
   refine Ac [] (He t i (by omega) hlt) (by simp +contextual -dsimp only [↓SD, SU, simprocAttr]) ?_
   rintro r hp' ⟨x, rfl, hx, hx2, rfl⟩
   by_cases hx0 : x = bs []
   ·simp +contextual -dsimp only [↓SD, SU, simprocAttr, hx0]
    refine Ai.post [] ?_
    simp +contextual -dsimp only [↓SD, SU, simprocAttr]
    exact .inl ⟨2, i, rfl, by omega, by omega, rfl⟩
   ·have hx3 := hx2.resolve_left hx0
    simp +contextual -dsimp only [↓SD, SU, simprocAttr, hx0, ht2, hlm]
    refine ⟨by omega, ?_⟩
    refine ⟨⟨by omega, by unfold maxLen; omega⟩, fun v' => ?_⟩
    exact Ai.le ⟨⟨i + x.size, l ++ [(⟨6, 0, x, i⟩ : EG)], v'⟩, ⟨⟨by dsimp only; omega, by simp only [List.length_append, List.length_cons, List.length_nil]; omega, fun y hy => by
     rcases List.mem_append.1 hy with h | h
     ·exact h3 y h
     ·rw [List.mem_singleton.1 h]; exact ⟨by dsimp only; omega, by dsimp only; omega, by dsimp only; omega, by dsimp only; omega⟩⟩, (by first | omega | (simp only; omega))⟩, rfl⟩ (by simp +contextual -dsimp only [↓SD, SU, simprocAttr, List.length_append, Int.natCast_add]) (by simp +contextual -dsimp only [↓SD, SU, simprocAttr, hsn])
end Go.Proofs.YteeiaaogmjbcjaaGreat
