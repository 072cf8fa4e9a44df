/-
 VERSIONS OF PARTS BY RANGES OF THEIR INDICES. Conditions: none.
-/
import Derived.Test.YtppjinmlfcokaaaGreatJAvRen
import Derived.Test.YtppjinmlfcokaaaGreatProg
import Derived.Test.YtppjinmlfcokaaaGreatJAvDraw
set_option linter.unusedVariables false
set_option linter.unusedSimpArgs false
namespace Go.Proofs.YtppjinmlfcokaaaGreat
open Go.RowKit Go.Proofs.YtppjinmlfcokaaaGreat.Av
open Go.Proofs.YtppjinmlfcokaaaGreat.Av.AVal (av)
open OVal (ov oh on)

open Classical in
noncomputable def LR (nm m : Nat) (vs vs' : Nat → Nat) : Nat → Nat := fun k => if ∃ i, m ≤ i ∧ InT (sub nm i) k then vs k else vs' k
section
variable {α : Type} [AVal α] [OVal α]
theorem Qj {nm m : Nat} (vs vs' : Nat → Nat) : ∀ (i : Nat) (l : List α), m ≤ i → ovL nm (LR nm m vs vs') i l = ovL nm vs i l ∧ ohL nm (LR nm m vs vs') i l = ohL nm vs i l
 | _, [], _ => ⟨rfl, rfl⟩
 | i, e :: r, h => by
  obtain ⟨a, b⟩ := Qj (nm := nm) (m := m) vs vs' (i + 1) r (by omega)
  obtain ⟨c, d⟩ := OVal.FL (sub nm i) (LR nm m vs vs') vs e (fun k hk => if_pos ⟨i, h, hk⟩)
  simp only [ovL, ohL, a, b, c, d, and_self]
theorem Wa {nm m : Nat} (vs vs' : Nat → Nat) : ∀ (i : Nat) (l : List α), i + l.length ≤ m → ovL nm (LR nm m vs vs') i l = ovL nm vs' i l ∧ ohL nm (LR nm m vs vs') i l = ohL nm vs' i l
 | _, [], _ => ⟨rfl, rfl⟩
 | i, e :: r, h => by
  simp only [List.length_cons] at h
  obtain ⟨a, b⟩ := Wa (nm := nm) (m := m) vs vs' (i + 1) r (by omega)
  obtain ⟨c, d⟩ := OVal.FL (sub nm i) (LR nm m vs vs') vs' e (fun k hk => if_neg (fun ⟨j, hj, hk'⟩ => by have := hk.sib hk'; omega))
  simp only [ovL, ohL, a, b, c, d, and_self]
theorem Abt {nm : Nat} (vs vs' : Nat → Nat) (i : Nat) (a b : List α) : ovL nm (LR nm (i + a.length) vs vs') i (a ++ b) = ovL nm vs' i a ++ ovL nm vs (i + a.length) b ∧ ohL nm (LR nm (i + a.length) vs vs') i (a ++ b) = ohL nm vs' i a ++ ohL nm vs (i + a.length) b := by
 have h1 := Wa (α := α) (nm := nm) (m := i + a.length) vs vs' i a (Nat.le_refl _)
 have h2 := Qj (α := α) (nm := nm) (m := i + a.length) vs vs' (i + a.length) b (Nat.le_refl _)
 rw [Ln, O4, h1.1, h1.2, h2.1, h2.2]
 exact ⟨rfl, rfl⟩
theorem Abc {nm m i : Nat} {vs vs' : Nat → Nat} {a b : List α} {s : Hp} (hm : i + a.length ≤ m) (hs : ∀ p ∈ ohL nm vs' i a, An s p.1 = some p.2) : Ax (ohL nm vs m b ++ s) (ohL nm vs' i a ++ ohL nm vs m b) := by
 rw [Ap]
 refine ⟨Az.2 fun p hp => ?_, Bz (Cy nm vs m b)⟩
 obtain ⟨q, hq, hin⟩ := GC hp
 have hn : ∀ r ∈ ohL nm vs m b, r.1 ≠ p.1 := fun r hr e => by
  obtain ⟨j, hj, h2⟩ := DP hr
  rw [e] at h2
  have := h2.sib (OVal.inh hin)
  omega
 rw [BR hn]
 exact hs p hp
end
theorem Ad9 {α : Type} [AVal α] [OVal α] {nm i q : Nat} {vs : Nat → Nat} {l : List α} (h : q < 10000) : An (ohL nm vs i l) q = none := TN fun p hp e => by
 obtain ⟨j, _, hj⟩ := DP hp
 have := hj.ge
 omega
end Go.Proofs.YtppjinmlfcokaaaGreat
set_option linter.unusedVariables false
set_option maxRecDepth 100000
namespace Go.Proofs.YtppjinmlfcokaaaGreat
open Go.Proofs.YtppjinmlfcokaaaGreat.Av

theorem C6 : Tryz.prog.follows .mixedOrders = true := by kernel_rfl

def Dz : Ir Tryz.prog 133 [(4,7776)] [9999] 1 := ⟨_, _, Tryz.func133, C6, by kernel_rfl, Ah [] Tryz.progTables (by conv => lhs; cbv) (by kernel_rfl)⟩
def CV : Ir Tryz.prog 134 [(4,7776)] [9999] 1 := ⟨_, _, Tryz.func134, C6, by kernel_rfl, Ah [] Tryz.progTables (by conv => lhs; cbv) (by kernel_rfl)⟩
def CX : Ir Tryz.prog 172 [(4,7776)] [9999] 1 := ⟨_, _, Tryz.func172, C6, by kernel_rfl, Ah [] Tryz.progTables (by conv => lhs; cbv) (by kernel_rfl)⟩
def EW : Ir Tryz.prog 173 [(4,7776)] [9999] 1 := ⟨_, _, Tryz.func173, C6, by kernel_rfl, Ah [] Tryz.progTables (by conv => lhs; cbv) (by kernel_rfl)⟩
def It : Ir Tryz.prog 135 [(23, 7777), (8, 7777)] [9999] 1 := ⟨_, _, Tryz.func135, C6, by kernel_rfl, Ah [10005] Tryz.progTables (by conv => lhs; cbv) (by kernel_rfl)⟩
def HN : Ir Tryz.prog 68 [(15, 7777)] [9999] 1 := ⟨_, _, Tryz.func68, C6, by kernel_rfl, Ah [] Tryz.progTables (by conv => lhs; cbv) (by kernel_rfl)⟩
def G6 : Ir Tryz.prog 67 [(17, 7777), (33, 7777)] [9999] 1 := ⟨_, _, Tryz.func67, C6, by kernel_rfl, Ah [10009] Tryz.progTables (by conv => lhs; cbv) (by kernel_rfl)⟩
def HM : Ir Tryz.prog 66 [(18,7775),(22,7775),(26,7775),(30,7775),(34,7775),(38,29),(39,30),(59,30), (35, 7777), (52, 7777)] [9999, 11] 2 := ⟨_, _, Tryz.func66, C6, by kernel_rfl, Ah [] Tryz.progTables (by conv => lhs; cbv) (by kernel_rfl)⟩
def G5 : Ir Tryz.prog 32 [(13, 7777), (9, 7777)] [9999] 2 := ⟨_, _, Tryz.func32, C6, by kernel_rfl, Ah [] Tryz.progTables (by conv => lhs; cbv) (by kernel_rfl)⟩
end Go.Proofs.YtppjinmlfcokaaaGreat
