/-
 THE DATA Ask, EY: as plain Lean structures, and when a Go value reads as one. Conditions: none. Printed by gen.py.
-/
import Derived.Test.YteeiaaogmjbcjaaGreatRows
import Derived.Test.YteeiaaogmjbcjaaGreatKJ05
import Derived.Test.YteeiaaogmjbcjaaGreatKJ06
import Derived.Test.YteeiaaogmjbcjaaGreatProg
import Derived.Test.YteeiaaogmjbcjaaGreatKAvDraw
import Derived.Test.YteeiaaogmjbcjaaGreatKJ07
import Derived.Test.YteeiaaogmjbcjaaGreatKJ20
import Derived.Test.YteeiaaogmjbcjaaGreatKJ11
set_option linter.unusedVariables false
namespace Go.Proofs.YteeiaaogmjbcjaaGreat
open Go.RowKit Go.Proofs.YteeiaaogmjbcjaaGreat.Ml

structure Ask where
 arm : Int
 path : List Int
 kind : Int
 n : Int
 s : ByteArray
 has : Bool
 yes : Int
 no : Int
 deriving DecidableEq, Inhabited

def Ask.rep (S : Nat → Prop) (w : World) (cs : List Value) (x : Ask) : Prop := ∃ v1, cs = [Value.int .i64 x.arm, v1, Value.int .i64 x.kind, Value.int .i64 x.n, Value.string x.s, Value.bool x.has, Value.int .i64 x.yes, Value.int .i64 x.no] ∧ (-9223372036854775808 ≤ x.arm ∧ x.arm ≤ 9223372036854775807) ∧ (-9223372036854775808 ≤ x.kind ∧ x.kind ≤ 9223372036854775807) ∧ (-9223372036854775808 ≤ x.n ∧ x.n ≤ 9223372036854775807) ∧ x.s.size ≤ maxLen ∧ (-9223372036854775808 ≤ x.yes ∧ x.yes ≤ 9223372036854775807) ∧ (-9223372036854775808 ≤ x.no ∧ x.no ≤ 9223372036854775807) ∧ En S w v1 x.path
instance : Rep Ask where
 n := 8
 rep := Ask.rep
 len := by rintro _ _ _ _ ⟨v1, rfl, _⟩; rfl
 carry := by rintro _ _ _ _ _ _ ⟨v1, rfl, h0, h1, h2, h3, h4, h5, h6⟩ hS hw; exact ⟨v1, rfl, h0, h1, h2, h3, h4, h5, h6.carry hS hw⟩
instance : AB Ask := ⟨fun x => AB.bulk x.arm + AB.bulk x.path + AB.bulk x.kind + AB.bulk x.n + AB.bulk x.s + AB.bulk x.has + AB.bulk x.yes + AB.bulk x.no + 1, fun _ => by omega⟩

structure EY where
 nodes : List Ask
 deriving DecidableEq, Inhabited

def EY.rep (S : Nat → Prop) (w : World) (cs : List Value) (x : EY) : Prop := ∃ v0, cs = [v0] ∧ En S w v0 x.nodes
instance : Rep EY where
 n := 1
 rep := EY.rep
 len := by rintro _ _ _ _ ⟨v0, rfl, _⟩; rfl
 carry := by rintro _ _ _ _ _ _ ⟨v0, rfl, h0⟩ hS hw; exact ⟨v0, rfl, h0.carry hS hw⟩
instance : AB EY := ⟨fun x => AB.bulk x.nodes + 1, fun _ => by omega⟩

end Go.Proofs.YteeiaaogmjbcjaaGreat
set_option linter.unusedVariables false
set_option maxRecDepth 100000
set_option linter.unusedVariables false
set_option linter.unusedSimpArgs false
set_option maxRecDepth 100000
namespace Go.Proofs.YteeiaaogmjbcjaaGreat
open Go.RowKit Go.Proofs.YteeiaaogmjbcjaaGreat.Av Go.Proofs.YteeiaaogmjbcjaaGreat.Ml
open Go.Proofs.YteeiaaogmjbcjaaGreat.Av.AVal (av)

instance : AVal Ask := ⟨fun x => .agg [.int .i64 x.arm, .sl (x.path.map av), .int .i64 x.kind, .int .i64 x.n, .str x.s, .bool x.has, .int .i64 x.yes, .int .i64 x.no], 8, fun _ => rfl, fun _ => rfl, fun x y hy => by
 simp only [AV.cells, List.mem_cons, List.not_mem_nil, or_false] at hy
 rcases hy with rfl | rfl | rfl | rfl | rfl | rfl | rfl | rfl <;> first | exact Aj.int _ _ | exact Aj.str _ | exact Aj.bool _ | exact Aw x.path, fun _ _ => rfl, fun x y hy => by
 simp only [AV.cells, List.mem_cons, List.not_mem_nil, or_false] at hy
 rcases hy with rfl | rfl | rfl | rfl | rfl | rfl | rfl | rfl <;> rfl⟩
theorem Hq (x : Ask) : av x = .agg [.int .i64 x.arm, .sl (x.path.map av), .int .i64 x.kind, .int .i64 x.n, .str x.s, .bool x.has, .int .i64 x.yes, .int .i64 x.no] := eqq rfl
instance : EB Ask := ⟨fun {S w cs y} h => by
 obtain ⟨v1, rfl, h0, h2, h3, h4, h6, h7, r1⟩ := h
 exact VRs.cons (.int _ _ h0.1 h0.2) (VRs.cons (C6 r1) (VRs.cons (.int _ _ h2.1 h2.2) (VRs.cons (.int _ _ h3.1 h3.2) (VRs.cons (.str _ h4) (VRs.cons (.bool _) (VRs.cons (.int _ _ h6.1 h6.2) (VRs.cons (.int _ _ h7.1 h7.2) (VRs.nil))))))))⟩

instance : AVal EY := ⟨fun x => .agg [.sl (x.nodes.map av)], 1, fun _ => rfl, fun _ => rfl, fun x y hy => by
 simp only [AV.cells, List.mem_cons, List.not_mem_nil, or_false] at hy
 subst hy; first | exact Aj.int _ _ | exact Aj.str _ | exact Aj.bool _ | exact Aw x.nodes, fun _ _ => rfl, fun x y hy => by
 simp only [AV.cells, List.mem_cons, List.not_mem_nil, or_false] at hy
 subst hy; rfl⟩
theorem YH (x : EY) : av x = .agg [.sl (x.nodes.map av)] := eqq rfl
instance : EB EY := ⟨fun {S w cs y} h => by
 obtain ⟨v0, rfl, r0⟩ := h
 exact VRs.cons (C6 r0) (VRs.nil)⟩

end Go.Proofs.YteeiaaogmjbcjaaGreat
set_option linter.unusedVariables false
set_option maxRecDepth 100000
set_option linter.unusedVariables false
set_option linter.unusedSimpArgs false
set_option maxRecDepth 100000
namespace Go.Proofs.YteeiaaogmjbcjaaGreat
open Go.RowKit Go.Proofs.YteeiaaogmjbcjaaGreat.Av Go.Proofs.YteeiaaogmjbcjaaGreat.Ml
open Go.Proofs.YteeiaaogmjbcjaaGreat.Av.AVal (av)
open OVal (ov oh on)
open Mk (mkv cnt)

instance : OVal Ask where
 ty := 98
 ov nm vs x := .agg [.int .i64 x.arm, ov (sub nm 0) vs x.path, .int .i64 x.kind, .int .i64 x.n, .str x.s, .bool x.has, .int .i64 x.yes, .int .i64 x.no]
 oh nm vs x := oh (sub nm 0) vs x.path
 on nm x := on (sub nm 0) x.path
 names nm vs x := OVal.names _ _ _
 inn nm x k h := (OVal.inn _ _ _ h).up
 self nm vs x := OVal.self _ _ _
 LS nm vs vs' x h := by
  obtain ⟨a0, b0⟩ := OVal.LS (sub nm 0) vs vs' x.path (fun k hk => h k hk.up)
  simp only [a0, b0, and_self]
 L0 nm vs x hp h := by
  have h0 := OVal.L0 (sub nm 0) vs x.path hp h
  show AV.agg [.int .i64 x.arm, (ov (sub nm 0) vs x.path).pur (Cr (on (sub nm 0) x.path) hp), .int .i64 x.kind, .int .i64 x.n, .str x.s, .bool x.has, .int .i64 x.yes, .int .i64 x.no] = av x
  rw [h0]; rfl
 dep nm vs x hp hp' h := by
  have h0 := OVal.dep (sub nm 0) vs x.path hp hp' (fun k hk => h k hk.up)
  show AV.agg [.int .i64 x.arm, (ov (sub nm 0) vs x.path).pur hp, .int .i64 x.kind, .int .i64 x.n, .str x.s, .bool x.has, .int .i64 x.yes, .int .i64 x.no] = AV.agg [.int .i64 x.arm, (ov (sub nm 0) vs x.path).pur hp', .int .i64 x.kind, .int .i64 x.n, .str x.s, .bool x.has, .int .i64 x.yes, .int .i64 x.no]
  rw [h0]
 free nm vs x p h := by exact OVal.free _ _ _ p h
 QT nm vs x y hx := by
  simp only [AV.cells, List.mem_cons, List.not_mem_nil, or_false] at hx
  rcases hx with rfl | rfl | rfl | rfl | rfl | rfl | rfl | rfl <;> rfl
 ok _ _ _ := rfl
 agg _ _ _ := rfl
 len _ _ _ := rfl
theorem AaJ (nm : Nat) (vs : Nat → Nat) (x : Ask) : oh nm vs x = oh (sub nm 0) vs x.path := rfl

instance : Mk Ask := ⟨fun k x => ⟨k, mkL (k + 1) x.path, k + 1 + (HU x.path : Int), k + 1 + (HU x.path : Int) + 1, AaP (k + 1 + (HU x.path : Int) + 1 + 1), decide ((k + 1 + (HU x.path : Int) + 1 + 1 + 1).tmod 3 = 0), k + 1 + (HU x.path : Int) + 1 + 1 + 1 + 1, k + 1 + (HU x.path : Int) + 1 + 1 + 1 + 1 + 1⟩, fun x => 7 + HU x.path⟩
theorem AcH (x : Ask) : cnt x = 7 + HU x.path := rfl
instance : MkB Ask := ⟨fun x => by
 have hbx : AB.bulk x = AB.bulk x.arm + AB.bulk x.path + AB.bulk x.kind + AB.bulk x.n + AB.bulk x.s + AB.bulk x.has + AB.bulk x.yes + AB.bulk x.no + 1 := rfl
 have hbx_0 : AB.bulk x.arm = 1 := rfl
 have hbx_1 := Gi x.path
 have hbx_2 : AB.bulk x.kind = 1 := rfl
 have hbx_3 : AB.bulk x.n = 1 := rfl
 have hbx_4 : AB.bulk x.s = x.s.size + 1 := rfl
 have hbx_5 : AB.bulk x.has = 1 := rfl
 have hbx_6 : AB.bulk x.yes = 1 := rfl
 have hbx_7 : AB.bulk x.no = 1 := rfl
 rw [AcH]
 omega⟩

instance : OVal EY where
 ty := 44
 ov nm vs x := .agg [ov (sub nm 0) vs x.nodes]
 oh nm vs x := oh (sub nm 0) vs x.nodes
 on nm x := on (sub nm 0) x.nodes
 names nm vs x := OVal.names _ _ _
 inn nm x k h := (OVal.inn _ _ _ h).up
 self nm vs x := OVal.self _ _ _
 LS nm vs vs' x h := by
  obtain ⟨a0, b0⟩ := OVal.LS (sub nm 0) vs vs' x.nodes (fun k hk => h k hk.up)
  simp only [a0, b0, and_self]
 L0 nm vs x hp h := by
  have h0 := OVal.L0 (sub nm 0) vs x.nodes hp h
  show AV.agg [(ov (sub nm 0) vs x.nodes).pur (Cr (on (sub nm 0) x.nodes) hp)] = av x
  rw [h0]; rfl
 dep nm vs x hp hp' h := by
  have h0 := OVal.dep (sub nm 0) vs x.nodes hp hp' (fun k hk => h k hk.up)
  show AV.agg [(ov (sub nm 0) vs x.nodes).pur hp] = AV.agg [(ov (sub nm 0) vs x.nodes).pur hp']
  rw [h0]
 free nm vs x p h := by exact OVal.free _ _ _ p h
 QT nm vs x y hx := by
  simp only [AV.cells, List.mem_cons, List.not_mem_nil, or_false] at hx
  subst hx <;> rfl
 ok _ _ _ := rfl
 agg _ _ _ := rfl
 len _ _ _ := rfl
theorem Xq (nm : Nat) (vs : Nat → Nat) (x : EY) : ov nm vs x = .agg [.row (sub nm 0) (vs (sub nm 0)) x.nodes.length] := eqq rfl
instance : Mk EY := ⟨fun k x => ⟨mkL (k) x.nodes⟩, fun x => HU x.nodes⟩
theorem Abp (x : EY) : cnt x = HU x.nodes := rfl
instance : MkB EY := ⟨fun x => by
 have hbx : AB.bulk x = AB.bulk x.nodes + 1 := rfl
 have hbx_0 := Gi x.nodes
 rw [Abp]
 omega⟩

end Go.Proofs.YteeiaaogmjbcjaaGreat
set_option linter.unusedVariables false
set_option maxRecDepth 100000
namespace Go.Proofs.YteeiaaogmjbcjaaGreat
open Go.Proofs.YteeiaaogmjbcjaaGreat.Av

theorem Cb : Tryz.prog.follows .mixedOrders = true := by kernel_rfl

def GI : Ir Tryz.prog 71 [] [] 1 := ⟨_, _, Tryz.func71, Cb, by kernel_rfl, Ay [] Tryz.progTables (by conv => lhs; cbv) (by kernel_rfl)⟩
def E5 : Ir Tryz.prog 94 [] [9999] 2 := ⟨_, _, Tryz.func94, Cb, by kernel_rfl, Ay [] Tryz.progTables (by conv => lhs; cbv) (by kernel_rfl)⟩
def EI : Ir Tryz.prog 72 [(24, 7777)] [] 1 := ⟨_, _, Tryz.func72, Cb, by kernel_rfl, Ay [] Tryz.progTables (by conv => lhs; cbv) (by kernel_rfl)⟩
def DW : Ir Tryz.prog 41 [(37,37)] [] 2 := ⟨_, _, Tryz.func41, Cb, by kernel_rfl, Ay [] Tryz.progTables (by conv => lhs; cbv) (by kernel_rfl)⟩
def HI : Ir Tryz.prog 74 [] [] 2 := ⟨_, _, Tryz.func74, Cb, by kernel_rfl, Ay [] Tryz.progTables (by conv => lhs; cbv) (by kernel_rfl)⟩
def Ft : Ir Tryz.prog 73 [] [] 2 := ⟨_, _, Tryz.func73, Cb, by kernel_rfl, Ay [] Tryz.progTables (by conv => lhs; cbv) (by kernel_rfl)⟩
def DC : Ir Tryz.prog 95 [] [] 2 := ⟨_, _, Tryz.func95, Cb, by kernel_rfl, Ay [] Tryz.progTables (by conv => lhs; cbv) (by kernel_rfl)⟩
def EU : Ir Tryz.prog 75 [(4,7776)] [9999] 1 := ⟨_, _, Tryz.func75, Cb, by kernel_rfl, Ay [] Tryz.progTables (by conv => lhs; cbv) (by kernel_rfl)⟩
def BL : Ir Tryz.prog 42 [(58,36),(136,36), (127, 7777), (141, 7777), (144, 7777)] [9999, 24,31] 2 := ⟨_, _, Tryz.func42, Cb, by kernel_rfl, Ay [] Tryz.progTables (by conv => lhs; cbv) (by kernel_rfl)⟩
def HO : Ir Tryz.prog 40 [] [] 1 := ⟨_, _, Tryz.func40, Cb, by kernel_rfl, Ay [] Tryz.progTables (by conv => lhs; cbv) (by kernel_rfl)⟩
def DE : Ir Tryz.prog 11 [(35,35),(16,32), (38, 7777)] [9999, 10] 1 := ⟨_, _, Tryz.func11, Cb, by kernel_rfl, Ay [] Tryz.progTables (by conv => lhs; cbv) (by kernel_rfl)⟩
end Go.Proofs.YteeiaaogmjbcjaaGreat
set_option linter.unusedVariables false
namespace Go.Proofs.YteeiaaogmjbcjaaGreat
open Go.RowKit Go.Proofs.YteeiaaogmjbcjaaGreat.Av Go.Proofs.YteeiaaogmjbcjaaGreat.Ml
open Go.Proofs.YteeiaaogmjbcjaaGreat.Av.AVal (av)

structure Tst where
 path : List Int
 kind : Int
 n : Int
 s : ByteArray
 has : Bool
structure BU where
 AD : List Tst
 arm : Int
mutual
def BG : Px → List Int → List Tst
 | .mk h ks, p => if h.kind = 1 ∨ h.kind = 2 then [] else ⟨p, h.kind, h.n, h.s, decide (h.kind = 4) && decide (0 < ks.length)⟩ :: A2 ks p 0
def A2 : List Px → List Int → Nat → List Tst
 | [], _, _ => []
 | k :: ks, p, i => BG k (p ++ [(i : Int)]) ++ A2 ks p (i + 1)
end
def Cv (x t : Tst) : Bool := decide (x.path = t.path)
def D4 (x t : Tst) : Bool := decide (x.kind = t.kind) && decide (x.n = t.n) && decide (x.s = t.s) && (x.has == t.has)
def Dd (t x : Tst) : Bool := Cv x t && !D4 x t
def Dh (t x : Tst) : Bool := Cv x t && D4 x t
def B8 (rows : List BU) (t : Tst) : List BU := (rows.filter fun r => !r.AD.any (Dd t)).map fun r => ⟨r.AD.filter fun x => !Cv x t, r.arm⟩
def noR (rows : List BU) (t : Tst) : List BU := rows.filter fun r => !r.AD.any (Dh t)
def Fo (go : Nat → List BU → List Ask) (base : Nat) (rows : List BU) (arm : Int) : List Tst → List Ask
 | [] => [⟨arm, [], 0, 0, bs [], false, 0, 0⟩]
 | t :: _ => ⟨0, t.path, t.kind, t.n, t.s, t.has, base + 1, base + 1 + (go (base + 1) (B8 rows t)).length⟩ :: (go (base + 1) (B8 rows t) ++ go (base + 1 + (go (base + 1) (B8 rows t)).length) (noR rows t))
def C8 (go : Nat → List BU → List Ask) (base : Nat) : List BU → List Ask
 | [] => [⟨-1, [], 0, 0, bs [], false, 0, 0⟩]
 | r :: rs => Fo go base (r :: rs) r.arm r.AD
def A9 : Nat → Nat → List BU → List Ask
 | 0, _, _ => []
 | f + 1, base, rows => if 400 < base then [] else C8 (A9 f) base rows
def wtR (rows : List BU) : Nat := (rows.map fun r => 1 + r.AD.length).sum
theorem UR (t : Tst) : D4 t t = true := by simp [D4]
theorem LQ (p : BU → Bool) (g : BU → BU) (hg : ∀ r, (g r).AD.length ≤ r.AD.length) : ∀ rows, wtR ((rows.filter p).map g) ≤ wtR rows
 | [] => by simp [wtR]
 | r :: rs => by
  have ih := LQ p g hg rs
  have := hg r
  unfold wtR at *
  by_cases hp : p r = true
  ·rw [List.filter_cons_of_pos hp]
   simp only [List.map_cons, List.sum_cons]
   omega
  ·rw [List.filter_cons_of_neg (by simpa using hp)]
   simp only [List.map_cons, List.sum_cons]
   omega
theorem Ro {r : BU} {rs : List BU} {t : Tst} {ts : List Tst} (h : r.AD = t :: ts) : wtR (B8 (r :: rs) t) < wtR (r :: rs) := by
 have h1 := LQ (fun r => !r.AD.any (Dd t)) (fun r => ⟨r.AD.filter fun x => !Cv x t, r.arm⟩) (fun r => List.length_filter_le _ _) rs
 have h2 : (r.AD.filter fun x => !Cv x t).length ≤ ts.length := by
  rw [h, List.filter_cons_of_neg (by simp [Cv])]
  exact List.length_filter_le _ _
 have h3 : r.AD.length = ts.length + 1 := by rw [h]; rfl
 unfold B8
 unfold wtR at *
 by_cases hp : (!r.AD.any (Dd t)) = true
 ·rw [List.filter_cons_of_pos (p := fun r : BU => !r.AD.any (Dd t)) hp]
  simp only [List.map_cons, List.sum_cons]
  omega
 ·rw [List.filter_cons_of_neg (p := fun r : BU => !r.AD.any (Dd t)) (by simpa using hp)]
  simp only [List.map_cons, List.sum_cons]
  omega
theorem WL {r : BU} {rs : List BU} {t : Tst} {ts : List Tst} (h : r.AD = t :: ts) : wtR (noR (r :: rs) t) < wtR (r :: rs) := by
 have h1 := LQ (fun r => !r.AD.any (Dh t)) id (fun r => Nat.le_refl _) rs
 rw [List.map_id] at h1
 unfold noR
 rw [List.filter_cons_of_neg (by simp [h, Dh, UR, Cv])]
 have : wtR (r :: rs) = 1 + r.AD.length + wtR rs := by simp [wtR]
 omega
theorem FF : ∀ (f base : Nat) (rows : List BU), base + (A9 f base rows).length ≤ max base 401
 | 0, base, rows => by rw [A9]; simp; omega
 | f + 1, base, rows => by
  rw [A9]
  split
  ·simp; omega
  ·cases rows with
   | nil => rw [C8]; simp; omega
   | cons r rs =>
    rw [C8]
    cases ht : r.AD with
    | nil => rw [Fo]; simp; omega
    | cons t ts =>
     have h1 := FF f (base + 1) (B8 (r :: rs) t)
     have h2 := FF f (base + 1 + (A9 f (base + 1) (B8 (r :: rs) t)).length) (noR (r :: rs) t)
     rw [Fo]
     simp only [List.length_cons, List.length_append]
     omega
theorem Acv {r : BU} {t : Tst} (h : r.AD.any (Dd t) = false) : (r.AD.filter fun x => !Dh t x) = r.AD.filter fun x => !Cv x t := by
 refine List.filter_congr fun x hx => ?_
 have := (List.any_eq_false.1 h) x hx
 unfold Dd at this
 unfold Dh
 cases h1 : Cv x t <;> cases h2 : D4 x t <;> rw [h1, h2] at this <;> first | rfl | (exact absurd rfl this)
theorem AaW {r : BU} {t : Tst} : decide ((r.AD.filter fun x => !Dh t x).length = r.AD.length) = !r.AD.any (Dh t) := by
 rw [Bool.eq_iff_iff]
 simp
def Bl : Nat → List Px → List BU
 | _, [] => []
 | i, q :: l => ⟨BG q [], (i : Int)⟩ :: Bl (i + 1) l
theorem Ky : ∀ (i : Nat) (l : List Px) (q : Px), Bl i (l ++ [q]) = Bl i l ++ [⟨BG q [], ((i + l.length : Nat) : Int)⟩]
 | i, [], q => by simp [Bl]
 | i, a :: l, q => by
  rw [List.cons_append, Bl, Bl, Ky, List.cons_append, List.length_cons, show i + 1 + l.length = i + (l.length + 1) by omega]
theorem Ia : ∀ (ks : List Px) (k : Px) (p : List Int) (i : Nat), A2 (ks ++ [k]) p i = A2 ks p i ++ BG k (p ++ [((i + ks.length : Nat) : Int)])
 | [], k, p, i => by simp [A2]
 | a :: ks, k, p, i => by
  rw [List.cons_append, A2, A2, Ia ks k p (i + 1), List.append_assoc, List.length_cons, show i + 1 + ks.length = i + (ks.length + 1) by omega]
theorem Jb {ks : List Px} (h : ∀ k ∈ ks, ∀ p, (BG k p).length ≤ pxN k) : ∀ p i, (A2 ks p i).length ≤ AZ ks := by
 induction ks with
 | nil => intro p i; rw [A2]; simp
 | cons k ks ih =>
  intro p i
  rw [A2, AZ, List.length_append]
  have h1 := h k (by simp) (p ++ [(i : Int)])
  have h2 := ih (fun k hk => h k (by simp [hk])) p (i + 1)
  omega
theorem Gm : ∀ q p, (BG q p).length ≤ pxN q := Px.ind fun n ks ih p => by
 rw [BG, pxN]
 split
 ·simp
 ·have := Jb ih p 0
  rw [List.length_cons]
  omega
def DF (l : List Pat) : Option (List Ask) :=
 if l = [] ∨ (l.any fun q => !Dg q.nodes) = true then none
 else
  let rows := Bl 0 (l.map fun q => Ba q.nodes 0)
  let a := A9 (wtR rows + 1) 0 rows
  if 400 < a.length then none else some a
end Go.Proofs.YteeiaaogmjbcjaaGreat
