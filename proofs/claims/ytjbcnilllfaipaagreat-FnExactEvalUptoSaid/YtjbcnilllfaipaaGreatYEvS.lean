/-
 RUN-TIME VALUES AS THE REFERENCE HOLDS THEM, and its run's state. Conditions: none.
-/
import Derived.Test.YtjbcnilllfaipaaGreatYEvQ
import Derived.Test.YtjbcnilllfaipaaGreatYJ06
set_option linter.unusedVariables false
set_option linter.unusedSimpArgs false
set_option maxRecDepth 100000
namespace Go.Proofs.YtjbcnilllfaipaaGreat
open Go.RowKit Go.Proofs.YtjbcnilllfaipaaGreat.Av Go.Proofs.YtjbcnilllfaipaaGreat.Ml
open Go.Proofs.YtjbcnilllfaipaaGreat.Av.AVal (av)

def EV.k : EV → Int
 | .int _ => 1
 | .str _ => 2
 | .unit => 3
 | .EZ _ => 4
 | .Gl _ _ => 4
 | .pair _ _ => 5
 | .fn _ _ _ => 6
 | .ref _ => 7
 | .given _ => 8
def EV.num : EV → Int
 | .int n => n
 | .fn i _ _ => i
 | .ref j => j
 | _ => 0
def EV.txt : EV → ByteArray
 | .str s => s
 | .EZ s => s
 | .Gl s _ => s
 | .fn _ nm _ => nm
 | .given s => s
 | _ => bs []
mutual
def EV.kA : EV → AV
 | .Gl _ v => .sl [.agg [.int .i64 v.k, .int .i64 v.num, .str v.txt, v.kA, v.eA]]
 | .pair a b => .sl [.agg [.int .i64 a.k, .int .i64 a.num, .str a.txt, a.kA, a.eA], .agg [.int .i64 b.k, .int .i64 b.num, .str b.txt, b.kA, b.eA]]
 | .int _ => .Ar
 | .str _ => .Ar
 | .unit => .Ar
 | .EZ _ => .Ar
 | .fn _ _ _ => .Ar
 | .ref _ => .Ar
 | .given _ => .Ar
def EV.eA : EV → AV
 | .fn _ _ e => .sl e.lA
 | .int _ => .Ar
 | .str _ => .Ar
 | .unit => .Ar
 | .EZ _ => .Ar
 | .Gl _ _ => .Ar
 | .pair _ _ => .Ar
 | .ref _ => .Ar
 | .given _ => .Ar
def EE.lA : EE → List AV
 | .nil => []
 | .cons s v up => up.lA ++ [.agg [.str s, .int .i64 v.k, .int .i64 v.num, .str v.txt, v.kA, v.eA]]
end
def spA (v : EV) : AV := .agg [.int .i64 v.k, .int .i64 v.num, .str v.txt, v.kA, v.eA]
mutual
theorem EV.Hv : ∀ v : EV, (v.kA.one = true ∧ Ac v.kA ∧ ∀ hp, v.kA.AR hp = v.kA) ∧ (v.eA.one = true ∧ Ac v.eA ∧ ∀ hp, v.eA.AR hp = v.eA)
 | .int n => by rw [EV.kA, EV.eA]; exact ⟨⟨rfl, Ac.Ar, fun _ => rfl⟩, rfl, Ac.Ar, fun _ => rfl⟩
 | .str n => by rw [EV.kA, EV.eA]; exact ⟨⟨rfl, Ac.Ar, fun _ => rfl⟩, rfl, Ac.Ar, fun _ => rfl⟩
 | .unit => by rw [EV.kA, EV.eA]; exact ⟨⟨rfl, Ac.Ar, fun _ => rfl⟩, rfl, Ac.Ar, fun _ => rfl⟩
 | .EZ n => by rw [EV.kA, EV.eA]; exact ⟨⟨rfl, Ac.Ar, fun _ => rfl⟩, rfl, Ac.Ar, fun _ => rfl⟩
 | .ref n => by rw [EV.kA, EV.eA]; exact ⟨⟨rfl, Ac.Ar, fun _ => rfl⟩, rfl, Ac.Ar, fun _ => rfl⟩
 | .given n => by rw [EV.kA, EV.eA]; exact ⟨⟨rfl, Ac.Ar, fun _ => rfl⟩, rfl, Ac.Ar, fun _ => rfl⟩
 | .Gl s v => by
  have h := EV.Hv v
  rw [EV.kA, EV.eA]
  refine ⟨⟨rfl, Ac.sl ?_, fun _ => rfl⟩, rfl, Ac.Ar, fun _ => rfl⟩
  intro e he x hx
  rw [List.mem_singleton.1 he] at hx
  simp only [AV.cells, List.mem_cons, List.not_mem_nil, or_false] at hx
  rcases hx with rfl | rfl | rfl | rfl | rfl
  ·exact Ac.int _ _
  ·exact Ac.int _ _
  ·exact Ac.str _
  ·exact h.1.2.1
  ·exact h.2.2.1
 | .pair a b => by
  have h := EV.Hv a
  have g := EV.Hv b
  rw [EV.kA, EV.eA]
  refine ⟨⟨rfl, Ac.sl ?_, fun _ => rfl⟩, rfl, Ac.Ar, fun _ => rfl⟩
  intro e he x hx
  simp only [List.mem_cons, List.not_mem_nil, or_false] at he
  rcases he with rfl | rfl
  ·simp only [AV.cells, List.mem_cons, List.not_mem_nil, or_false] at hx
   rcases hx with rfl | rfl | rfl | rfl | rfl
   ·exact Ac.int _ _
   ·exact Ac.int _ _
   ·exact Ac.str _
   ·exact h.1.2.1
   ·exact h.2.2.1
  ·simp only [AV.cells, List.mem_cons, List.not_mem_nil, or_false] at hx
   rcases hx with rfl | rfl | rfl | rfl | rfl
   ·exact Ac.int _ _
   ·exact Ac.int _ _
   ·exact Ac.str _
   ·exact g.1.2.1
   ·exact g.2.2.1
 | .fn i nm e => by
  rw [EV.kA, EV.eA]
  exact ⟨⟨rfl, Ac.Ar, fun _ => rfl⟩, rfl, Ac.sl (EE.Ac7 e), fun _ => rfl⟩
theorem EE.Ac7 : ∀ e : EE, ∀ x ∈ e.lA, ∀ y ∈ x.cells, Ac y
 | .nil => by rw [EE.lA]; intro x hx; cases hx
 | .cons s v up => by
  have h := EV.Hv v
  have g := EE.Ac7 up
  rw [EE.lA]
  intro x hx y hy
  rcases List.mem_append.1 hx with hx | hx
  ·exact g x hx y hy
  ·rw [List.mem_singleton.1 hx] at hy
   simp only [AV.cells, List.mem_cons, List.not_mem_nil, or_false] at hy
   rcases hy with rfl | rfl | rfl | rfl | rfl | rfl
   ·exact Ac.str _
   ·exact Ac.int _ _
   ·exact Ac.int _ _
   ·exact Ac.str _
   ·exact h.1.2.1
   ·exact h.2.2.1
end
instance : AVal EV := ⟨spA, 5, fun _ => rfl, fun _ => rfl, fun v y hy => by
 have h := EV.Hv v
 simp only [spA, AV.cells, List.mem_cons, List.not_mem_nil, or_false] at hy
 rcases hy with rfl | rfl | rfl | rfl | rfl
 ·exact Ac.int _ _
 ·exact Ac.int _ _
 ·exact Ac.str _
 ·exact h.1.2.1
 ·exact h.2.2.1, fun v hp => by
 have h := EV.Hv v
 simp only [spA, AV.pur, List.map_cons, List.map_nil, h.1.2.2, h.2.2.2]
 rfl, fun v y hy => by
 have h := EV.Hv v
 simp only [spA, AV.cells, List.mem_cons, List.not_mem_nil, or_false] at hy
 rcases hy with rfl | rfl | rfl | rfl | rfl
 ·exact rfl
 ·exact rfl
 ·exact rfl
 ·exact h.1.1
 ·exact h.2.1⟩
structure EB where
 s : ByteArray
 v : EV
instance : AVal EB := ⟨fun x => .agg [.str x.s, .int .i64 x.v.k, .int .i64 x.v.num, .str x.v.txt, x.v.kA, x.v.eA], 6, fun _ => rfl, fun _ => rfl, fun x y hy => by
 have h := EV.Hv x.v
 simp only [AV.cells, List.mem_cons, List.not_mem_nil, or_false] at hy
 rcases hy with rfl | rfl | rfl | rfl | rfl | rfl
 ·exact Ac.str _
 ·exact Ac.int _ _
 ·exact Ac.int _ _
 ·exact Ac.str _
 ·exact h.1.2.1
 ·exact h.2.2.1, fun x hp => by
 have h := EV.Hv x.v
 simp only [AV.pur, List.map_cons, List.map_nil, h.1.2.2, h.2.2.2]
 rfl, fun x y hy => by
 have h := EV.Hv x.v
 simp only [AV.cells, List.mem_cons, List.not_mem_nil, or_false] at hy
 rcases hy with rfl | rfl | rfl | rfl | rfl | rfl
 ·exact rfl
 ·exact rfl
 ·exact rfl
 ·exact rfl
 ·exact h.1.1
 ·exact h.2.1⟩
def EE.bs : EE → List EB
 | .nil => []
 | .cons s v up => up.bs ++ [⟨s, v⟩]
theorem AU (v : EV) : av v = .agg [.int .i64 v.k, .int .i64 v.num, .str v.txt, v.kA, v.eA] := eqq rfl
theorem AbJ (s : ByteArray) (v : EV) : av (EB.mk s v) = .agg [.str s, .int .i64 v.k, .int .i64 v.num, .str v.txt, v.kA, v.eA] := eqq rfl
theorem OT : ∀ e : EE, e.lA = e.bs.map av
 | .nil => by rw [EE.lA, EE.bs]; rfl
 | .cons s v up => by rw [EE.lA, EE.bs, OT up, List.map_append]; rfl
theorem Pr (i : Nat) (nm : ByteArray) (e : EE) : (EV.fn i nm e).eA = .sl (e.bs.map av) := by rw [EV.eA, OT]
theorem NW (s : ByteArray) (v : EV) : (EV.Gl s v).kA = .sl ([v].map av) := by rw [EV.kA]; rfl
theorem Yf (a b : EV) : (EV.pair a b).kA = .sl ([a, b].map av) := by rw [EV.kA]; rfl
end Go.Proofs.YtjbcnilllfaipaaGreat
