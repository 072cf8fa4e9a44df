/-
 THE DATA I4, Data: as plain Lean structures, and when a Go value reads as one. Conditions: none. Printed by gen.py.
-/
import Derived.Test.YtoffpbehgncakaaGreatRows
import Derived.Test.YtoffpbehgncakaaGreatKJ05
import Derived.Test.YtoffpbehgncakaaGreatKJ11
import Derived.Test.YtoffpbehgncakaaGreatProg
import Derived.Test.YtoffpbehgncakaaGreatKAvDraw
import Derived.Test.YtoffpbehgncakaaGreatKJ14
set_option linter.unusedVariables false
namespace Go.Proofs.YtoffpbehgncakaaGreat
open Go.RowKit Go.Proofs.YtoffpbehgncakaaGreat.Ml

structure I4 where
 kind : Int
 n : Int
 s : ByteArray
 kids : List Int
 deriving DecidableEq, Inhabited

def I4.rep (S : Nat → Prop) (w : World) (cs : List Value) (x : I4) : Prop := ∃ v3, cs = [Value.int .i64 x.kind, Value.int .i64 x.n, Value.string x.s, v3] ∧ (-9223372036854775808 ≤ x.kind ∧ x.kind ≤ 9223372036854775807) ∧ (-9223372036854775808 ≤ x.n ∧ x.n ≤ 9223372036854775807) ∧ x.s.size ≤ maxLen ∧ DG S w v3 x.kids
instance : Rep I4 where
 n := 4
 rep := I4.rep
 len := by rintro _ _ _ _ ⟨v3, rfl, _⟩; rfl
 carry := by rintro _ _ _ _ _ _ ⟨v3, rfl, h0, h1, h2, h3⟩ hS hw; exact ⟨v3, rfl, h0, h1, h2, h3.carry hS hw⟩
instance : AE I4 := ⟨fun x => AE.bulk x.kind + AE.bulk x.n + AE.bulk x.s + AE.bulk x.kids + 1, fun _ => by omega⟩

structure Data where
 nodes : List I4
 deriving DecidableEq, Inhabited

def Data.rep (S : Nat → Prop) (w : World) (cs : List Value) (x : Data) : Prop := ∃ v0, cs = [v0] ∧ DG S w v0 x.nodes
instance : Rep Data where
 n := 1
 rep := Data.rep
 len := by rintro _ _ _ _ ⟨v0, rfl, _⟩; rfl
 carry := by rintro _ _ _ _ _ _ ⟨v0, rfl, h0⟩ hS hw; exact ⟨v0, rfl, h0.carry hS hw⟩
instance : AE Data := ⟨fun x => AE.bulk x.nodes + 1, fun _ => by omega⟩

end Go.Proofs.YtoffpbehgncakaaGreat
set_option linter.unusedVariables false
set_option maxRecDepth 100000
set_option linter.unusedVariables false
set_option linter.unusedSimpArgs false
set_option maxRecDepth 100000
namespace Go.Proofs.YtoffpbehgncakaaGreat
open Go.RowKit Go.Proofs.YtoffpbehgncakaaGreat.Av Go.Proofs.YtoffpbehgncakaaGreat.Ml
open Go.Proofs.YtoffpbehgncakaaGreat.Av.AVal (av)

instance : AVal I4 := ⟨fun x => .agg [.int .i64 x.kind, .int .i64 x.n, .str x.s, .sl (x.kids.map av)], 4, fun _ => rfl, fun _ => rfl, fun x y hy => by
 simp only [AV.cells, List.mem_cons, List.not_mem_nil, or_false] at hy
 rcases hy with rfl | rfl | rfl | rfl <;> first | exact Ap.int _ _ | exact Ap.str _ | exact Ap.bool _ | exact AQ x.kids, fun _ _ => rfl, fun x y hy => by
 simp only [AV.cells, List.mem_cons, List.not_mem_nil, or_false] at hy
 rcases hy with rfl | rfl | rfl | rfl <;> rfl⟩
instance : Em I4 := ⟨fun {S w cs y} h => by
 obtain ⟨v3, rfl, h0, h1, h2, r3⟩ := h
 exact VRs.cons (.int _ _ h0.1 h0.2) (VRs.cons (.int _ _ h1.1 h1.2) (VRs.cons (.str _ h2) (VRs.cons (C7 r3) (VRs.nil))))⟩

instance : AVal Data := ⟨fun x => .agg [.sl (x.nodes.map av)], 1, fun _ => rfl, fun _ => rfl, fun x y hy => by
 simp only [AV.cells, List.mem_cons, List.not_mem_nil, or_false] at hy
 subst hy; first | exact Ap.int _ _ | exact Ap.str _ | exact Ap.bool _ | exact AQ x.nodes, fun _ _ => rfl, fun x y hy => by
 simp only [AV.cells, List.mem_cons, List.not_mem_nil, or_false] at hy
 subst hy; rfl⟩
instance : Em Data := ⟨fun {S w cs y} h => by
 obtain ⟨v0, rfl, r0⟩ := h
 exact VRs.cons (C7 r0) (VRs.nil)⟩

end Go.Proofs.YtoffpbehgncakaaGreat
set_option linter.unusedVariables false
set_option maxRecDepth 100000
set_option linter.unusedVariables false
set_option linter.unusedSimpArgs false
set_option maxRecDepth 100000
set_option linter.unusedVariables false
set_option linter.unusedSimpArgs false
set_option maxRecDepth 100000
set_option linter.unusedVariables false
namespace Go.Proofs.YtoffpbehgncakaaGreat
open Go.RowKit Go.Proofs.YtoffpbehgncakaaGreat.Av Go.Proofs.YtoffpbehgncakaaGreat.Ml
open Go.Proofs.YtoffpbehgncakaaGreat.Av.AVal (av)

structure Hd where
 kind : Int
 n : Int
 s : ByteArray
 deriving DecidableEq
inductive Px where
 | mk (h : Hd) (ks : List Px)
theorem Px.ind {P : Px → Prop} (h : ∀ n ks, (∀ k ∈ ks, P k) → P (.mk n ks)) : ∀ t, P t
 | .mk n ks => h n ks fun k hk => Px.ind h k
termination_by t => SizeOf.sizeOf t
decreasing_by
 have := List.sizeOf_lt_of_mem hk
 simp only [Px.mk.sizeOf_spec]
 omega
def Px.hd : Px → Hd
 | .mk h _ => h
def Px.kids : Px → List Px
 | .mk _ ks => ks
mutual
def pxA : Px → AV
 | .mk n ks => .obj [.int .i64 n.kind, .int .i64 n.n, .str n.s, .sl (YS ks)]
def YS : List Px → List AV
 | [] => []
 | t :: ts => pxA t :: YS ts
end
theorem RD : ∀ ks, YS ks = ks.map pxA
 | [] => by rw [YS]; rfl
 | t :: ts => by rw [YS, RD ts]; rfl
theorem JN (n : Hd) (ks : List Px) : pxA (.mk n ks) = .obj [.int .i64 n.kind, .int .i64 n.n, .str n.s, .sl (ks.map pxA)] := by rw [pxA, RD]
theorem XN : ∀ t, Ap (pxA t) := Px.ind fun n ks ih => by
 rw [JN]
 refine Ap.obj ?_
 simp only [List.mem_cons, List.not_mem_nil, or_false]
 rintro x (rfl | rfl | rfl | rfl)
 ·exact Cr _
 ·exact Cr _
 ·exact Ap.str _
 ·refine Ap.sl fun e he y hy => ?_
  obtain ⟨k, hk, rfl⟩ := List.mem_map.1 he
  have h := ih k hk
  cases k with | mk m js =>
  rw [JN] at hy h
  simp only [AV.cells, List.mem_cons, List.not_mem_nil, or_false] at hy
  subst hy
  exact h
instance : AVal Px := ⟨pxA, 1, fun x => (by cases x; rw [JN]; rfl), fun x => (by cases x; rw [JN]; rfl), fun x y hy => (by
 have h := XN x
 cases x with | mk n ks =>
 rw [JN] at hy h
 simp only [AV.cells, List.mem_cons, List.not_mem_nil, or_false] at hy
 subst hy
 exact h), fun x hp => (by cases x; rw [JN]; rfl), fun x y hy => (by
 cases x with | mk n ks =>
 rw [JN] at hy
 simp only [AV.cells, List.mem_cons, List.not_mem_nil, or_false] at hy
 subst hy
 rfl)⟩
end Go.Proofs.YtoffpbehgncakaaGreat
set_option linter.unusedVariables false
namespace Go.Proofs.YtoffpbehgncakaaGreat
open Go.RowKit Go.Proofs.YtoffpbehgncakaaGreat.Av Go.Proofs.YtoffpbehgncakaaGreat.Ml
open Go.Proofs.YtoffpbehgncakaaGreat.Av.AVal (av)

mutual
def pxN : Px → Nat
 | .mk _ ks => 1 + Df ks
def Df : List Px → Nat
 | [] => 0
 | t :: ts => pxN t + Df ts
end
theorem Kc (ks : List Px) : Df ks = (ks.map pxN).sum := by
 induction ks with
 | nil => rw [Df]; rfl
 | cons t ts ih => rw [Df, ih]; rfl
theorem XM (ks : List Px) (j : Nat) (hj : j < ks.length) : Df (ks.take j) + pxN ks[j] ≤ Df ks := by
 rw [Kc, Kc]
 have h2 : ks = ks.take j ++ ks[j] :: ks.drop (j + 1) := by rw [← List.drop_eq_getElem_cons hj, List.take_append_drop]
 have h3 := congrArg (fun l : List Px => (l.map pxN).sum) h2
 simp only [List.map_append, List.map_cons, List.sum_append, List.sum_cons] at h3
 omega
theorem AaE : ∀ q, 1 ≤ pxN q
 | .mk _ _ => by rw [pxN]; omega
theorem RA : ∀ ks : List Px, ks.length ≤ Df ks
 | [] => by simp
 | k :: ks => by
  rw [Df, List.length_cons]
  have := AaE k
  have := RA ks
  omega
end Go.Proofs.YtoffpbehgncakaaGreat
set_option linter.unusedVariables false
namespace Go.Proofs.YtoffpbehgncakaaGreat

def CZ : Nat → List Px → List Int
 | _, [] => []
 | b, t :: ts => (b : Int) :: CZ (b + pxN t) ts
mutual
def B9 : Nat → Px → List BD
 | b, .mk h ks => ⟨h.kind, h.n, h.s, CZ (b + 1) ks⟩ :: BO (b + 1) ks
def BO : Nat → List Px → List BD
 | _, [] => []
 | b, t :: ts => B9 b t ++ BO (b + pxN t) ts
end
theorem Nq {ks : List Px} (h : ∀ k ∈ ks, ∀ b, (B9 b k).length = pxN k) : ∀ b, (BO b ks).length = Df ks := by
 induction ks with
 | nil => intro b; rw [BO, Df]; rfl
 | cons k ks ih =>
  intro b
  rw [BO, Df, List.length_append, h k (by simp), ih (fun k hk => h k (by simp [hk]))]
theorem Lg : ∀ t b, (B9 b t).length = pxN t := Px.ind fun n ks ih b => by
 rw [B9, pxN, List.length_cons, Nq ih]; omega
theorem LR (b : Nat) (ks : List Px) : (BO b ks).length = Df ks := Nq (fun k _ b => Lg k b) b
theorem LQ : ∀ (b : Nat) (ks : List Px) (k : Px), BO b (ks ++ [k]) = BO b ks ++ B9 (b + Df ks) k
 | b, [], k => by simp [BO, Df]
 | b, t :: ts, k => by
  rw [List.cons_append, BO, BO, Df, LQ, List.append_assoc, Nat.add_assoc]
theorem LI : ∀ (b : Nat) (ks : List Px) (k : Px), CZ b (ks ++ [k]) = CZ b ks ++ [((b + Df ks : Nat) : Int)]
 | b, [], k => by simp [CZ, Df]
 | b, t :: ts, k => by
  rw [List.cons_append, CZ, CZ, Df, LI, List.cons_append, Nat.add_assoc]
theorem Hk : ∀ (b : Nat) (ks : List Px), (CZ b ks).length = ks.length
 | b, [] => rfl
 | b, t :: ts => by rw [CZ, List.length_cons, List.length_cons, Hk]
theorem YR (ks : List Px) (k : Px) : Df (ks ++ [k]) = Df ks + pxN k := by
 rw [Kc, Kc, List.map_append, List.sum_append]; simp
end Go.Proofs.YtoffpbehgncakaaGreat
