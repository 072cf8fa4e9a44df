/-
 THE ARMS OF A TREE OF QUESTIONS, told plainly; Compact OF INTS, as a contract over own rows. Conditions: none.
-/
import Derived.Test.YteeiaaogmjbcjaaGreatUJ08
import Derived.Test.YteeiaaogmjbcjaaGreatUJ06
import Derived.Test.YteeiaaogmjbcjaaGreatUJ05
import Derived.Test.YteeiaaogmjbcjaaGreatRows
import Derived.Test.YteeiaaogmjbcjaaGreatProg
import Derived.Test.YteeiaaogmjbcjaaGreatUAvDraw
set_option linter.unusedVariables false
set_option linter.unusedSimpArgs false
namespace Go.Proofs.YteeiaaogmjbcjaaGreat
open Go.RowKit Go.Proofs.YteeiaaogmjbcjaaGreat.Av Go.Proofs.YteeiaaogmjbcjaaGreat.Ml
open Go.Proofs.YteeiaaogmjbcjaaGreat.Av.AVal (av)
open Go.Sort (putRow putCells Holds grow mapBlock onCells)

def Je (l : List Int) : List Int := Lib.compact l
def Abu (l : List Int) : List Int := List.replicate (l.length - (Je l).length) 0
def ltI (a b : Int) : Bool := decide (a < b)
theorem MQ : Srt.JS ltI := ⟨fun a => by simp [ltI], fun a b c h1 h2 => by simp [ltI] at *; omega, fun a b h => by simp [ltI]; omega⟩
theorem Ta (l : List Int) : Je (EH l) = l.foldl (Srt.put ltI) [] := by
 unfold Je EH
 exact Srt.YU MQ (fun x y => decide (x ≤ y)) (fun a b => by simp [ltI]; omega) l
theorem Z4 (l : List Int) (x : Int) : x ∈ Je l → x ∈ l := by
 intro hx
 unfold Je Lib.compact Lib.compactUpTo at hx
 simp only [List.mem_map, List.mem_filter, List.mem_range] at hx
 obtain ⟨j, ⟨hj, _⟩, rfl⟩ := hx
 have : l.toArray[j]! = l[j] := by simp [hj]
 rw [this]; exact List.getElem_mem hj
theorem W3 (l : List Int) : (Je l).length ≤ l.length := by
 unfold Je Lib.compact Lib.compactUpTo
 rw [List.length_map]
 exact Nat.le_trans (List.length_filter_le _ _) (by simp)
def YE (k v : Nat) (l : List Int) (r : AV) (hp' : Hp) : Prop := r = .row k v (Je l).length ∧ hp' = [(k, ⟨v, false, 3, 1, (Je l ++ Abu l).map av⟩)]
theorem Oj (k v : Nat) (l : List Int) (hl : l.length ≤ 1099511627776) : AH Tryz.prog 51 [.row k v l.length] [(k, ⟨v, false, 3, 1, l.map av⟩)] (YE k v l) := by
 have hle : (Lib.compact l).length ≤ l.length := W3 l
 refine NG (AaH encI (k := k) (v := v) (n' := (Lib.compact l).length) (ty := 3) (l := l) (l' := Lib.compact l ++ List.replicate (l.length - (Lib.compact l).length) 0) (by kernel_rfl) (by simp only [List.length_append, List.length_replicate]; omega) hle (fun h x hx => ?_) ?_ ?_) rfl rfl ?_
 ·rcases List.mem_append.1 hx with hx | hx
  ·exact h x (Z4 l x hx)
  ·obtain ⟨_, rfl⟩ := List.mem_replicate.1 hx
   exact ⟨by decide, by decide⟩
 ·intro blk cap w hne hH hb hc hm
  refine (slices_Compact_int blk 0 cap l w hH (by omega) hc).mono ?_
  rintro e w' ⟨rfl, n, rfl⟩
  exact ⟨rfl, n, #[], (Go.Sort.grow_empty _).symm⟩
 ·intro a cap w _
  refine (slices_Compact_int_empty a cap w).mono ?_
  rintro e w' ⟨rfl, rfl⟩
  exact ⟨rfl, 0, #[], by simp⟩
 ·rintro r h ⟨rfl, rfl⟩
  exact ⟨rfl, rfl⟩
end Go.Proofs.YteeiaaogmjbcjaaGreat
set_option linter.unusedVariables false
namespace Go.Proofs.YteeiaaogmjbcjaaGreat
open Go.RowKit Go.Proofs.YteeiaaogmjbcjaaGreat.Av
open Go.Proofs.YteeiaaogmjbcjaaGreat.Av.AVal (av)
open AVal (av)

theorem B5 {α : Type} {l : List α} {k : Nat} (h : k < l.length) (d : α) : l.getD k d = l[k] := by simp [List.getD_eq_getElem?_getD, h]
theorem Ja {α : Type} [AVal α] (d : List α) (z : α) {j : Nat} (h : j < d.length) : (d.map av).getD j .top = av (d.getD j z) := by
 rw [getD_map av d j .top h, B5 h]
theorem Ra {α β : Type} (f : α → β) (l : List α) : (l.map f).take l.length = l.map f := by rw [List.take_of_length_le]; simp
def allI (p : Nat → Bool) (n : Nat) : Bool := (List.range n).all p
theorem Yw {p : Nat → Bool} {n : Nat} (h : ∀ i, i < n → p i = true) : allI p n = true := by
 unfold allI; rw [List.all_eq_true]; intro i hi; exact h i (List.mem_range.1 hi)
theorem NR {p : Nat → Bool} {n i : Nat} (hi : i < n) (h : p i = false) : allI p n = false := by
 unfold allI; rw [List.all_eq_false]; exact ⟨i, List.mem_range.2 hi, by simp [h]⟩
theorem NQ {p : Nat → Bool} {n : Nat} : allI p n = true ↔ ∀ i, i < n → p i = true := by
 unfold allI; rw [List.all_eq_true]; exact ⟨fun h i hi => h i (List.mem_range.2 hi), fun h i hi => h i (List.mem_range.1 hi)⟩
end Go.Proofs.YteeiaaogmjbcjaaGreat
set_option linter.unusedVariables false
set_option linter.unusedVariables false
namespace Go.Proofs.YteeiaaogmjbcjaaGreat
open Go.RowKit Go.Proofs.YteeiaaogmjbcjaaGreat.Ml

structure Ask where
 arm : Int
 path : List Int
 kind : Int
 n : Int
 s : ByteArray
 has : Bool
 yes : Int
 no : Int
 deriving DecidableEq, Inhabited

def Ask.rep (S : Nat → Prop) (w : World) (cs : List Value) (x : Ask) : Prop := ∃ v1, cs = [Value.int .i64 x.arm, v1, Value.int .i64 x.kind, Value.int .i64 x.n, Value.string x.s, Value.bool x.has, Value.int .i64 x.yes, Value.int .i64 x.no] ∧ (-9223372036854775808 ≤ x.arm ∧ x.arm ≤ 9223372036854775807) ∧ (-9223372036854775808 ≤ x.kind ∧ x.kind ≤ 9223372036854775807) ∧ (-9223372036854775808 ≤ x.n ∧ x.n ≤ 9223372036854775807) ∧ x.s.size ≤ maxLen ∧ (-9223372036854775808 ≤ x.yes ∧ x.yes ≤ 9223372036854775807) ∧ (-9223372036854775808 ≤ x.no ∧ x.no ≤ 9223372036854775807) ∧ DI S w v1 x.path
instance : Rep Ask where
 n := 8
 rep := Ask.rep
 len := by rintro _ _ _ _ ⟨v1, rfl, _⟩; rfl
 carry := by rintro _ _ _ _ _ _ ⟨v1, rfl, h0, h1, h2, h3, h4, h5, h6⟩ hS hw; exact ⟨v1, rfl, h0, h1, h2, h3, h4, h5, h6.carry hS hw⟩
instance : AE Ask := ⟨fun x => AE.bulk x.arm + AE.bulk x.path + AE.bulk x.kind + AE.bulk x.n + AE.bulk x.s + AE.bulk x.has + AE.bulk x.yes + AE.bulk x.no + 1, fun _ => by omega⟩

structure Ek where
 nodes : List Ask
 deriving DecidableEq, Inhabited

def Ek.rep (S : Nat → Prop) (w : World) (cs : List Value) (x : Ek) : Prop := ∃ v0, cs = [v0] ∧ DI S w v0 x.nodes
instance : Rep Ek where
 n := 1
 rep := Ek.rep
 len := by rintro _ _ _ _ ⟨v0, rfl, _⟩; rfl
 carry := by rintro _ _ _ _ _ _ ⟨v0, rfl, h0⟩ hS hw; exact ⟨v0, rfl, h0.carry hS hw⟩
instance : AE Ek := ⟨fun x => AE.bulk x.nodes + 1, fun _ => by omega⟩

end Go.Proofs.YteeiaaogmjbcjaaGreat
set_option linter.unusedVariables false
set_option maxRecDepth 100000
set_option linter.unusedVariables false
set_option linter.unusedSimpArgs false
set_option maxRecDepth 100000
set_option linter.unusedVariables false
set_option maxRecDepth 100000
set_option linter.unusedVariables false
set_option linter.unusedSimpArgs false
set_option maxRecDepth 100000
namespace Go.Proofs.YteeiaaogmjbcjaaGreat
open Go.RowKit Go.Proofs.YteeiaaogmjbcjaaGreat.Av Go.Proofs.YteeiaaogmjbcjaaGreat.Ml
open Go.Proofs.YteeiaaogmjbcjaaGreat.Av.AVal (av)

instance : AVal Ask := ⟨fun x => .agg [.int .i64 x.arm, .sl (x.path.map av), .int .i64 x.kind, .int .i64 x.n, .str x.s, .bool x.has, .int .i64 x.yes, .int .i64 x.no], 8, fun _ => rfl, fun _ => rfl, fun x y hy => by
 simp only [AV.cells, List.mem_cons, List.not_mem_nil, or_false] at hy
 rcases hy with rfl | rfl | rfl | rfl | rfl | rfl | rfl | rfl <;> first | exact Ap.int _ _ | exact Ap.str _ | exact Ap.bool _ | exact AD x.path, fun _ _ => rfl, fun x y hy => by
 simp only [AV.cells, List.mem_cons, List.not_mem_nil, or_false] at hy
 rcases hy with rfl | rfl | rfl | rfl | rfl | rfl | rfl | rfl <;> rfl⟩
theorem JP (x : Ask) : av x = .agg [.int .i64 x.arm, .sl (x.path.map av), .int .i64 x.kind, .int .i64 x.n, .str x.s, .bool x.has, .int .i64 x.yes, .int .i64 x.no] := eqq rfl
instance : DR Ask := ⟨fun {S w cs y} h => by
 obtain ⟨v1, rfl, h0, h2, h3, h4, h6, h7, r1⟩ := h
 exact VRs.cons (.int _ _ h0.1 h0.2) (VRs.cons (Cp r1) (VRs.cons (.int _ _ h2.1 h2.2) (VRs.cons (.int _ _ h3.1 h3.2) (VRs.cons (.str _ h4) (VRs.cons (.bool _) (VRs.cons (.int _ _ h6.1 h6.2) (VRs.cons (.int _ _ h7.1 h7.2) (VRs.nil))))))))⟩

instance : AVal Ek := ⟨fun x => .agg [.sl (x.nodes.map av)], 1, fun _ => rfl, fun _ => rfl, fun x y hy => by
 simp only [AV.cells, List.mem_cons, List.not_mem_nil, or_false] at hy
 subst hy; first | exact Ap.int _ _ | exact Ap.str _ | exact Ap.bool _ | exact AD x.nodes, fun _ _ => rfl, fun x y hy => by
 simp only [AV.cells, List.mem_cons, List.not_mem_nil, or_false] at hy
 subst hy; rfl⟩
theorem Xi (x : Ek) : av x = .agg [.sl (x.nodes.map av)] := eqq rfl
instance : DR Ek := ⟨fun {S w cs y} h => by
 obtain ⟨v0, rfl, r0⟩ := h
 exact VRs.cons (Cp r0) (VRs.nil)⟩

end Go.Proofs.YteeiaaogmjbcjaaGreat
set_option linter.unusedVariables false
set_option maxRecDepth 100000
namespace Go.Proofs.YteeiaaogmjbcjaaGreat
open Go.Proofs.YteeiaaogmjbcjaaGreat.Av

theorem DP : Tryz.prog.follows .mixedOrders = true := by kernel_rfl

def IG : Ir Tryz.prog 16 [] [] 1 := ⟨_, _, Tryz.func16, DP, by kernel_rfl, Az [] Tryz.progTables (by conv => lhs; cbv) (by kernel_rfl)⟩
def Jr : Ir Tryz.prog 48 [] [] 3 := ⟨_, _, Tryz.func48, DP, by kernel_rfl, Az [] Tryz.progTables (by conv => lhs; cbv) (by kernel_rfl)⟩
def HP : Ir Tryz.prog 79 [] [] 1 := ⟨_, _, Tryz.func79, DP, by kernel_rfl, Az [] Tryz.progTables (by conv => lhs; cbv) (by kernel_rfl)⟩
def Da : Ir Tryz.prog 78 [] [] 2 := ⟨_, _, Tryz.func78, DP, by kernel_rfl, Az [] Tryz.progTables (by conv => lhs; cbv) (by kernel_rfl)⟩
def Dx : Ir Tryz.prog 98 [] [] 2 := ⟨_, _, Tryz.func98, DP, by kernel_rfl, Az [] Tryz.progTables (by conv => lhs; cbv) (by kernel_rfl)⟩
def GW : Ir Tryz.prog 19 [] [] 1 := ⟨_, _, Tryz.func19, DP, by kernel_rfl, Az [] Tryz.progTables (by conv => lhs; cbv) (by kernel_rfl)⟩
end Go.Proofs.YteeiaaogmjbcjaaGreat
set_option linter.unusedVariables false
set_option maxRecDepth 100000
namespace Go.Proofs.YteeiaaogmjbcjaaGreat
open Go.Proofs.YteeiaaogmjbcjaaGreat.Av

theorem A5 : Tryz.prog.follows .mixedOrders = true := by kernel_rfl

def GU : Ir Tryz.prog 80 [] [] 3 := ⟨_, _, Tryz.func80, A5, by kernel_rfl, Az [] Tryz.progTables (by conv => lhs; cbv) (by kernel_rfl)⟩
def Jt : Ir Tryz.prog 99 [] [] 1 := ⟨_, _, Tryz.func99, A5, by kernel_rfl, Az [] Tryz.progTables (by conv => lhs; cbv) (by kernel_rfl)⟩
def IF : Ir Tryz.prog 88 [] [] 1 := ⟨_, _, Tryz.func88, A5, by kernel_rfl, Az [] Tryz.progTables (by conv => lhs; cbv) (by kernel_rfl)⟩
def GS : Ir Tryz.prog 119 [] [] 0 := ⟨_, _, Tryz.func119, A5, by kernel_rfl, Az [] Tryz.progTables (by conv => lhs; cbv) (by kernel_rfl)⟩
def CF : Ir Tryz.prog 60 [] [] 2 := ⟨_, _, Tryz.func60, A5, by kernel_rfl, Az [] Tryz.progTables (by conv => lhs; cbv) (by kernel_rfl)⟩
def Dg : Ir Tryz.prog 89 [] [] 2 := ⟨_, _, Tryz.func89, A5, by kernel_rfl, Az [] Tryz.progTables (by conv => lhs; cbv) (by kernel_rfl)⟩
def GL : Ir Tryz.prog 67 [] [] 3 := ⟨_, _, Tryz.func67, A5, by kernel_rfl, Az [] Tryz.progTables (by conv => lhs; cbv) (by kernel_rfl)⟩
def Jq : Ir Tryz.prog 91 [] [] 1 := ⟨_, _, Tryz.func91, A5, by kernel_rfl, Az [] Tryz.progTables (by conv => lhs; cbv) (by kernel_rfl)⟩
def Ix : Ir Tryz.prog 70 [] [] 1 := ⟨_, _, Tryz.func70, A5, by kernel_rfl, Az [] Tryz.progTables (by conv => lhs; cbv) (by kernel_rfl)⟩
def IC : Ir Tryz.prog 117 [] [] 1 := ⟨_, _, Tryz.func117, A5, by kernel_rfl, Az [] Tryz.progTables (by conv => lhs; cbv) (by kernel_rfl)⟩
def IE : Ir Tryz.prog 146 [] [] 1 := ⟨_, _, Tryz.func146, A5, by kernel_rfl, Az [] Tryz.progTables (by conv => lhs; cbv) (by kernel_rfl)⟩
def HL : Ir Tryz.prog 118 [] [] 1 := ⟨_, _, Tryz.func118, A5, by kernel_rfl, Az [] Tryz.progTables (by conv => lhs; cbv) (by kernel_rfl)⟩
def HK : Ir Tryz.prog 121 [] [] 1 := ⟨_, _, Tryz.func121, A5, by kernel_rfl, Az [] Tryz.progTables (by conv => lhs; cbv) (by kernel_rfl)⟩
def HM : Ir Tryz.prog 157 [] [] 1 := ⟨_, _, Tryz.func157, A5, by kernel_rfl, Az [] Tryz.progTables (by conv => lhs; cbv) (by kernel_rfl)⟩
def HE : Ir Tryz.prog 92 [] [] 2 := ⟨_, _, Tryz.func92, A5, by kernel_rfl, Az [] Tryz.progTables (by conv => lhs; cbv) (by kernel_rfl)⟩
def GP : Ir Tryz.prog 120 [] [] 1 := ⟨_, _, Tryz.func120, A5, by kernel_rfl, Az [] Tryz.progTables (by conv => lhs; cbv) (by kernel_rfl)⟩
def HG : Ir Tryz.prog 93 [] [] 1 := ⟨_, _, Tryz.func93, A5, by kernel_rfl, Az [] Tryz.progTables (by conv => lhs; cbv) (by kernel_rfl)⟩
end Go.Proofs.YteeiaaogmjbcjaaGreat
set_option linter.unusedVariables false
set_option maxRecDepth 100000
namespace Go.Proofs.YteeiaaogmjbcjaaGreat
open Go.Proofs.YteeiaaogmjbcjaaGreat.Av

theorem HR : Tryz.prog.follows .mixedOrders = true := by kernel_rfl

def ID : Ir Tryz.prog 49 [] [] 3 := ⟨_, _, Tryz.func49, HR, by kernel_rfl, Az [] Tryz.progTables (by conv => lhs; cbv) (by kernel_rfl)⟩
def Kp : Ir Tryz.prog 66 [] [] 1 := ⟨_, _, Tryz.func66, HR, by kernel_rfl, Az [] Tryz.progTables (by conv => lhs; cbv) (by kernel_rfl)⟩
end Go.Proofs.YteeiaaogmjbcjaaGreat
set_option linter.unusedVariables false
set_option linter.unusedSimpArgs false
set_option maxRecDepth 100000
namespace Go.Proofs.YteeiaaogmjbcjaaGreat
open Go.RowKit Go.Proofs.YteeiaaogmjbcjaaGreat.Av Go.Proofs.YteeiaaogmjbcjaaGreat.Ml
open Go.Proofs.YteeiaaogmjbcjaaGreat.Av.AVal (av)

theorem pu8 (n : Int) : Ap (.int .u8 n) := Ap.int _ _
theorem Ec (n lo hi : Int) : AJ Tryz.prog 49 [.int .i64 n, .int .i64 lo, .int .i64 hi] (.bool (decide (lo ≤ n) && decide (n ≤ hi))) := by
 refine ID.F rfl (by simp; exact ⟨Ap.int _ _, Ap.int _ _, Ap.int _ _⟩) (Ap.bool _) ?_
 simp +contextual -dsimp only [↓SD, SU, simprocAttr, ID]
 (repeat' (first | intro _ | refine And.intro ?_ ?_))
 all_goals simp [*]

theorem b8 (s : ByteArray) (i : Nat) : (0 : Int) ≤ (AW s i).toNat ∧ ((AW s i).toNat : Int) ≤ 255 := by
 have := (AW s i).toNat_lt; omega

def indexOf {α : Type} (l : List α) (p : α → Bool) : Int := match l.findIdx? p with | some i => (i : Int) | none => -1
theorem JI {α : Type} {l : List α} {p : α → Bool} {k : Nat} (hk : k < l.length) (h : (l.take k).all (fun x => !p x) = true) (hp : p l[k] = true) : indexOf l p = k := by
 have : l.findIdx? p = some k := by
  rw [List.findIdx?_eq_some_iff_getElem]
  refine ⟨hk, hp, fun j hj => ?_⟩
  have := (List.all_eq_true.1 h) l[j] (by rw [List.mem_take_iff_getElem]; exact ⟨j, by omega, rfl⟩)
  simpa using this
 simp [indexOf, this]
theorem Hf {α : Type} {l : List α} {p : α → Bool} (h : l.all (fun x => !p x) = true) : indexOf l p = -1 := by
 have : l.findIdx? p = none := by
  rw [List.findIdx?_eq_none_iff]
  intro x hx
  simpa using (List.all_eq_true.1 h) x hx
 simp [indexOf, this]
theorem II {α : Type} (l : List α) (p : α → Bool) : decide (0 ≤ indexOf l p) = l.any p := by
 unfold indexOf
 cases h : l.findIdx? p with
 | none =>
  rw [List.findIdx?_eq_none_iff] at h
  have : l.any p = false := by rw [List.any_eq_false]; intro x hx; simp [h x hx]
  simp [this]
 | some i =>
  rw [List.findIdx?_eq_some_iff_getElem] at h
  obtain ⟨hi, hp, _⟩ := h
  have : l.any p = true := by rw [List.any_eq_true]; exact ⟨l[i], List.getElem_mem hi, hp⟩
  simp [this]
end Go.Proofs.YteeiaaogmjbcjaaGreat
