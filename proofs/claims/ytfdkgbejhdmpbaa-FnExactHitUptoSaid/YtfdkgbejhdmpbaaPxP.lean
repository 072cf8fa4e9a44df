/-
  THE TREES OF PATTERNS AND OF VALUES, told plainly. Conditions: none.
-/
import Derived.Test.YtfdkgbejhdmpbaaDataP
set_option linter.unusedVariables false
namespace Go.Proofs.Ytfdkgbejhdmpbaa
open Go.RowKit Go.Proofs.Ytfdkgbejhdmpbaa.Av Go.Proofs.Ytfdkgbejhdmpbaa.Ml
open Go.Proofs.Ytfdkgbejhdmpbaa.Av.AVal (av)

/-- a node of a pattern or of a value, without its children's places -/
structure Hd where
  kind : Int
  n : Int
  s : ByteArray
  deriving DecidableEq
inductive Px where
  | mk (h : Hd) (ks : List Px)
theorem Px.ind {P : Px → Prop} (h : ∀ n ks, (∀ k ∈ ks, P k) → P (.mk n ks)) : ∀ t, P t
  | .mk n ks => h n ks fun k hk => Px.ind h k
termination_by t => SizeOf.sizeOf t
decreasing_by
  have := List.sizeOf_lt_of_mem hk
  simp only [Px.mk.sizeOf_spec]
  omega
def Px.hd : Px → Hd
  | .mk h _ => h
def Px.kids : Px → List Px
  | .mk _ ks => ks
mutual
def pxA : Px → AV
  | .mk n ks => .obj [.int .i64 n.kind, .int .i64 n.n, .str n.s, .sl (pxAs ks)]
def pxAs : List Px → List AV
  | [] => []
  | t :: ts => pxA t :: pxAs ts
end
theorem pxAs_map : ∀ ks, pxAs ks = ks.map pxA
  | [] => by rw [pxAs]; rfl
  | t :: ts => by rw [pxAs, pxAs_map ts]; rfl
theorem pxA_mk (n : Hd) (ks : List Px) : pxA (.mk n ks) = .obj [.int .i64 n.kind, .int .i64 n.n, .str n.s, .sl (ks.map pxA)] := by rw [pxA, pxAs_map]
theorem pxA_clean : ∀ t, AvPure (pxA t) := Px.ind fun n ks ih => by
  rw [pxA_mk]
  refine AvPure.obj ?_
  simp only [List.mem_cons, List.not_mem_nil, or_false]
  rintro x (rfl | rfl | rfl | rfl)
  · exact pint _
  · exact pint _
  · exact AvPure.str _
  · refine AvPure.sl fun e he y hy => ?_
    obtain ⟨k, hk, rfl⟩ := List.mem_map.1 he
    have h := ih k hk
    cases k with | mk m js =>
    rw [pxA_mk] at hy h
    simp only [AV.cells, List.mem_cons, List.not_mem_nil, or_false] at hy
    subst hy
    exact h
instance : AVal Px := ⟨pxA, 1, fun x => (by cases x; rw [pxA_mk]; rfl), fun x => (by cases x; rw [pxA_mk]; rfl), fun x y hy => (by
  have h := pxA_clean x
  cases x with | mk n ks =>
  rw [pxA_mk] at hy h
  simp only [AV.cells, List.mem_cons, List.not_mem_nil, or_false] at hy
  subst hy
  exact h), fun x hp => (by cases x; rw [pxA_mk]; rfl), fun x y hy => (by
  cases x with | mk n ks =>
  rw [pxA_mk] at hy
  simp only [AV.cells, List.mem_cons, List.not_mem_nil, or_false] at hy
  subst hy
  rfl)⟩
theorem av_Px (n : Hd) (ks : List Px) : av (Px.mk n ks) = .obj [.int .i64 n.kind, .int .i64 n.n, .str n.s, .sl (ks.map av)] := pxA_mk n ks
theorem av_px (t : Px) : av t = .obj [.int .i64 t.hd.kind, .int .i64 t.hd.n, .str t.hd.s, .sl (t.kids.map av)] := by cases t; exact av_Px _ _
theorem px_cells (t : Px) : (av t).cells = [av t] := by cases t; rw [av_Px]; rfl
theorem px_pur (t : Px) (hp : Hp) : (av t).pur hp = av t := AVal.nop t hp
theorem px_pur1 (t : Px) (hp : Hp) : (av t).pur1 hp = av t := by cases t; rw [av_Px]; rfl
theorem px_purA (t : Px) (hp : Hp) : (av t).purA hp = av t := by cases t; rw [av_Px]; rfl
theorem px_one (t : Px) : (av t).one = true := by cases t; rw [av_Px]; rfl
theorem px_ok (t : Px) : (av t).ok = true := AVal.ok t

/-- the tree at a place: H tells the nodes, K their children's places -/
def growX (H : Nat → Hd) (K : Nat → List Int) : Nat → Nat → Px
  | 0, i => .mk (H i) []
  | f + 1, i => .mk (H i) ((K i).map fun k => growX H K f k.toNat)
theorem growX_any {H : Nat → Hd} {K : Nat → List Int} {n : Nat} (hk : ∀ i, i < n → ∀ k ∈ K i, (i : Int) < k ∧ k < n) : ∀ (f g i : Nat), i < n → n - i ≤ f → n - i ≤ g → growX H K f i = growX H K g i
  | 0, g, i, hi, hf, _ => by omega
  | f + 1, 0, i, hi, _, hg => by omega
  | f + 1, g + 1, i, hi, hf, hg => by
    rw [growX, growX]
    congr 1
    refine List.map_congr_left fun k hk' => ?_
    have := hk i hi k hk'
    exact growX_any hk f g k.toNat (by omega) (by omega) (by omega)
def dhd (l : List DNode) (i : Nat) : Hd := ⟨(l.getD i default).kind, (l.getD i default).n, (l.getD i default).s⟩
def phd (l : List PNode) (i : Nat) : Hd := ⟨(l.getD i default).kind, (l.getD i default).n, (l.getD i default).s⟩
def dtree (l : List DNode) (i : Nat) : Px := growX (dhd l) (dkids l) l.length i
def ptree (l : List PNode) (i : Nat) : Px := growX (phd l) (pkids l) l.length i
theorem tree_mk {H : Nat → Hd} {K : Nat → List Int} {n : Nat} (hk : ∀ i, i < n → ∀ k ∈ K i, (i : Int) < k ∧ k < n) {i : Nat} (hi : i < n) : growX H K n i = .mk (H i) ((K i).map fun k => growX H K n k.toNat) := by
  obtain ⟨m, rfl⟩ : ∃ m, n = m + 1 := ⟨n - 1, by omega⟩
  rw [growX]
  congr 1
  refine List.map_congr_left fun k hk' => ?_
  have := hk i hi k hk'
  exact growX_any hk m (m + 1) k.toNat (by omega) (by omega) (by omega)
theorem dtree_mk {l : List DNode} (h : treeB (dkids l) l.length = true) {i : Nat} (hi : i < l.length) : dtree l i = .mk (dhd l i) ((dkids l i).map fun k => dtree l k.toNat) := tree_mk (fun i hi k hk => tree_in h hi hk) hi
theorem ptree_mk {l : List PNode} (h : treeB (pkids l) l.length = true) {i : Nat} (hi : i < l.length) : ptree l i = .mk (phd l i) ((pkids l i).map fun k => ptree l k.toNat) := tree_mk (fun i hi k hk => tree_in h hi hk) hi
end Go.Proofs.Ytfdkgbejhdmpbaa
