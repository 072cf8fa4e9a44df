/-
  THE TREES OF RIGHT PROGRAMS, told plainly: as the program holds them and as the reference holds them. Conditions: none.
-/
import Derived.Test.YtpomnlejlgojaaaGreatPgmP
set_option linter.unusedVariables false
namespace Go.Proofs.YtpomnlejlgojaaaGreat
open Go.RowKit Go.Proofs.YtpomnlejlgojaaaGreat.Av Go.Proofs.YtpomnlejlgojaaaGreat.Ml
open Go.Proofs.YtpomnlejlgojaaaGreat.Av.AVal (av)

/-- an expression as a tree -/
inductive Tr where
  | mk (n : Node) (ks : List Tr)
theorem Tr.ind {P : Tr → Prop} (h : ∀ n ks, (∀ k ∈ ks, P k) → P (.mk n ks)) : ∀ t, P t
  | .mk n ks => h n ks fun k hk => Tr.ind h k
termination_by t => SizeOf.sizeOf t
decreasing_by
  have := List.sizeOf_lt_of_mem hk
  simp only [Tr.mk.sizeOf_spec]
  omega

mutual
/-- as the program holds it -/
def exA : Tr → AV
  | .mk n ks => .obj [.int .i64 n.kind, .int .i64 n.pos, .int .i64 n.n, .str n.s, .sl (exAs ks), .sl (n.pats.map av)]
def exAs : List Tr → List AV
  | [] => []
  | t :: ts => exA t :: exAs ts
end
mutual
/-- as the reference holds it -/
def subA : Tr → AV
  | .mk n ks => .agg [.int .i64 n.kind, .int .i64 n.pos, .int .i64 n.n, .str n.s, .sl (n.kids.map av), .sl (n.pats.map av), .sl (subAs ks)]
def subAs : List Tr → List AV
  | [] => []
  | t :: ts => subA t :: subAs ts
end
theorem exAs_map : ∀ ks, exAs ks = ks.map exA
  | [] => by rw [exAs]; rfl
  | t :: ts => by rw [exAs, exAs_map ts]; rfl
theorem subAs_map : ∀ ks, subAs ks = ks.map subA
  | [] => by rw [subAs]; rfl
  | t :: ts => by rw [subAs, subAs_map ts]; rfl
theorem exA_mk (n : Node) (ks : List Tr) : exA (.mk n ks) = .obj [.int .i64 n.kind, .int .i64 n.pos, .int .i64 n.n, .str n.s, .sl (ks.map exA), .sl (n.pats.map av)] := by rw [exA, exAs_map]
theorem subA_mk (n : Node) (ks : List Tr) : subA (.mk n ks) = .agg [.int .i64 n.kind, .int .i64 n.pos, .int .i64 n.n, .str n.s, .sl (n.kids.map av), .sl (n.pats.map av), .sl (ks.map subA)] := by rw [subA, subAs_map]
theorem exA_clean : ∀ t, AvPure (exA t) := Tr.ind fun n ks ih => by
  rw [exA_mk]
  refine AvPure.obj ?_
  simp only [List.mem_cons, List.not_mem_nil, or_false]
  rintro x (rfl | rfl | rfl | rfl | rfl | rfl)
  · exact pint _
  · exact pint _
  · exact pint _
  · exact AvPure.str _
  · refine AvPure.sl fun e he y hy => ?_
    obtain ⟨k, hk, rfl⟩ := List.mem_map.1 he
    have h := ih k hk
    cases k with | mk m js =>
    rw [exA_mk] at hy h
    simp only [AV.cells, List.mem_cons, List.not_mem_nil, or_false] at hy
    subst hy
    exact h
  · exact lav_clean n.pats
theorem subA_cells : ∀ t, ∀ y ∈ (subA t).cells, AvPure y := Tr.ind fun n ks ih => by
  rw [subA_mk]
  simp only [AV.cells, List.mem_cons, List.not_mem_nil, or_false]
  rintro x (rfl | rfl | rfl | rfl | rfl | rfl | rfl)
  · exact pint _
  · exact pint _
  · exact pint _
  · exact AvPure.str _
  · exact lav_clean n.kids
  · exact lav_clean n.pats
  · refine AvPure.sl fun e he y hy => ?_
    obtain ⟨k, hk, rfl⟩ := List.mem_map.1 he
    exact ih k hk y hy
/-- a tree, as the program holds it; as the reference holds it -/
instance : AVal Tr := ⟨exA, 1, fun x => (by cases x; rw [exA_mk]; rfl), fun x => (by cases x; rw [exA_mk]; rfl), fun x y hy => (by
  have h := exA_clean x
  cases x with | mk n ks =>
  rw [exA_mk] at hy h
  simp only [AV.cells, List.mem_cons, List.not_mem_nil, or_false] at hy
  subst hy
  exact h), fun x hp => (by cases x; rw [exA_mk]; rfl), fun x y hy => (by
  cases x with | mk n ks =>
  rw [exA_mk] at hy
  simp only [AV.cells, List.mem_cons, List.not_mem_nil, or_false] at hy
  subst hy
  rfl)⟩
structure Sub where
  t : Tr
instance : AVal Sub := ⟨fun x => subA x.t, 7, fun x => (by obtain ⟨⟨n, ks⟩⟩ := x; simp only [subA_mk]; rfl), fun x => (by obtain ⟨⟨n, ks⟩⟩ := x; simp only [subA_mk]; rfl), fun x y hy => subA_cells x.t y hy, fun x hp => (by obtain ⟨⟨n, ks⟩⟩ := x; simp only [subA_mk]; rfl), fun x y hy => (by
  obtain ⟨⟨n, ks⟩⟩ := x
  simp only [subA_mk, AV.cells, List.mem_cons, List.not_mem_nil, or_false] at hy
  rcases hy with rfl | rfl | rfl | rfl | rfl | rfl | rfl <;> rfl)⟩
theorem av_Tr (n : Node) (ks : List Tr) : av (Tr.mk n ks) = .obj [.int .i64 n.kind, .int .i64 n.pos, .int .i64 n.n, .str n.s, .sl (ks.map av), .sl (n.pats.map av)] := exA_mk n ks
theorem av_Sub (n : Node) (ks : List Tr) : av (Sub.mk (Tr.mk n ks)) = .agg [.int .i64 n.kind, .int .i64 n.pos, .int .i64 n.n, .str n.s, .sl (n.kids.map av), .sl (n.pats.map av), .sl ((ks.map Sub.mk).map av)] := by
  rw [List.map_map]; exact subA_mk n ks

mutual
/-- how many nodes a tree has -/
def Tr.size : Tr → Nat
  | .mk _ ks => Tr.sizes ks + 1
def Tr.sizes : List Tr → Nat
  | [] => 0
  | t :: ts => t.size + Tr.sizes ts
end
/-- what a right program's node fulfils, that has m children -/
def nodeT (n : Node) (m : Nat) : Prop := (n.kind = 3 → m = 0) ∧ (n.kind = 13 → m = n.pats.length + 1) ∧ Bulk.bulk n ≤ 1048576
mutual
/-- a tree of right nodes -/
def Tr.ok : Tr → Prop
  | .mk n ks => nodeT n ks.length ∧ Tr.oks ks
def Tr.oks : List Tr → Prop
  | [] => True
  | t :: ts => t.ok ∧ Tr.oks ts
end
theorem oks_mem : ∀ {ks : List Tr} {k : Tr}, Tr.oks ks → k ∈ ks → k.ok
  | [], k, _, hk => by cases hk
  | t :: ts, k, h, hk => by
    rw [Tr.oks] at h
    rcases List.mem_cons.1 hk with rfl | hk
    · exact h.1
    · exact oks_mem h.2 hk
theorem oks_of : ∀ {ks : List Tr}, (∀ k ∈ ks, k.ok) → Tr.oks ks
  | [], _ => by rw [Tr.oks]; trivial
  | t :: ts, h => by rw [Tr.oks]; exact ⟨h t (by simp), oks_of fun k hk => h k (by simp [hk])⟩
theorem sizes_mem : ∀ {ks : List Tr} {k : Tr}, k ∈ ks → k.size ≤ Tr.sizes ks
  | [], k, hk => by cases hk
  | t :: ts, k, hk => by
    rw [Tr.sizes]
    rcases List.mem_cons.1 hk with rfl | hk
    · omega
    · have := sizes_mem hk; omega
theorem size_pos (t : Tr) : 1 ≤ t.size := by cases t; rw [Tr.size]; omega
theorem sizes_len : ∀ ks : List Tr, ks.length ≤ Tr.sizes ks
  | [] => by rw [Tr.sizes]; exact Nat.zero_le _
  | t :: ts => by rw [Tr.sizes]; have := sizes_len ts; have := size_pos t; simp; omega

/-- the tree at a place -/
def growT (l : List Node) : Nat → Nat → Tr
  | 0, _ => .mk default []
  | f + 1, i => .mk (l.getD i default) ((nkids l i).map fun k => growT l f k.toNat)
/-- every node behind a place inside a right tree begins a right tree -/
theorem kids_sub {K : Nat → List Int} {n : Nat} {e : Nat → Option Nat} (hle : ∀ a m, e a = some m → a < m ∧ m ≤ n) (he : ∀ a m, e a = some m → ∀ i, a ≤ i → i < m → ∃ f' m', endF K n f' i = some m') :
    ∀ {ks : List Int} {a m : Nat}, a ≤ n → kidsF e ks a = some m → ∀ i, a ≤ i → i < m → ∃ f' m', endF K n f' i = some m'
  | [], a, m, _, h => by cases h; intro i h1 h2; omega
  | k :: ks, a, m, ha, h => by
    unfold kidsF at h
    split at h
    · split at h
      · rename_i m' hm'
        intro i h4 h5
        rcases Nat.lt_or_ge i m' with h6 | h6
        · exact he _ _ hm' i h4 h6
        · exact kids_sub hle he (hle _ _ hm').2 h i h6 h5
      · cases h
    · cases h
theorem end_sub (K : Nat → List Int) (n : Nat) : ∀ (f a m : Nat), endF K n f a = some m → ∀ i, a ≤ i → i < m → ∃ f' m', endF K n f' i = some m'
  | 0, a, m, h => by cases h
  | f + 1, a, m, h => by
    intro i hi him
    rcases Nat.lt_or_ge a i with h2 | h2
    · unfold endF at h
      split at h
      · exact kids_sub (end_le K n f) (end_sub K n f) (by omega) h i (by omega) him
      · cases h
    · obtain rfl : i = a := by omega
      exact ⟨_, _, h⟩
theorem grow_any (l : List Node) (hk : ∀ i, i < l.length → ∀ k ∈ nkids l i, (i : Int) < k ∧ k < l.length) : ∀ (f g i : Nat), i < l.length → l.length - i ≤ f → l.length - i ≤ g → growT l f i = growT l g i
  | 0, g, i, hi, hf, _ => by omega
  | f + 1, 0, i, hi, _, hg => by omega
  | f + 1, g + 1, i, hi, hf, hg => by
    rw [growT, growT]
    congr 1
    refine List.map_congr_left fun k hk' => ?_
    have := hk i hi k hk'
    exact grow_any l hk f g k.toNat (by omega) (by omega) (by omega)
theorem grow_sizes {l : List Node} {f g : Nat} (ih : ∀ a m, endF (nkids l) l.length f a = some m → (growT l g a).size + a = m) : ∀ {ks : List Int} {a m : Nat}, kidsF (endF (nkids l) l.length f) ks a = some m → Tr.sizes (ks.map fun k => growT l g k.toNat) + a = m
  | [], a, m, h => by cases h; rw [List.map_nil, Tr.sizes]; omega
  | k :: ks, a, m, h => by
    unfold kidsF at h
    split at h
    · rename_i hk
      split at h
      · rename_i m' hm'
        have h1 := ih _ _ hm'
        have h2 := grow_sizes ih h
        rw [List.map_cons, Tr.sizes, hk, Int.toNat_natCast]
        omega
      · cases h
    · cases h
theorem grow_size (l : List Node) : ∀ (f a m : Nat), endF (nkids l) l.length f a = some m → (growT l f a).size + a = m
  | 0, a, m, h => by cases h
  | f + 1, a, m, h => by
    unfold endF at h
    split at h
    · rw [growT, Tr.size]
      have := grow_sizes (grow_size l f) h
      omega
    · cases h
/-- the tree at a place of a right program -/
def treeAt (l : List Node) (i : Nat) : Tr := growT l l.length i
theorem treeAt_mk {l : List Node} (hk : ∀ i, i < l.length → ∀ k ∈ nkids l i, (i : Int) < k ∧ k < l.length) {i : Nat} (hi : i < l.length) : treeAt l i = .mk (l.getD i default) ((nkids l i).map fun k => treeAt l k.toNat) := by
  unfold treeAt
  obtain ⟨m, hm⟩ : ∃ m, l.length = m + 1 := ⟨l.length - 1, by omega⟩
  rw [hm, growT]
  congr 1
  refine List.map_congr_left fun k hk' => ?_
  have := hk i hi k hk'
  rw [grow_any l hk m (m + 1) k.toNat (by omega) (by omega) (by omega)]
theorem treeAt_size {l : List Node} (h : treeB (nkids l) l.length = true) {i : Nat} (hi : i < l.length) : (treeAt l i).size ≤ l.length := by
  have hk : ∀ i, i < l.length → ∀ k ∈ nkids l i, (i : Int) < k ∧ k < l.length := fun i hi k hk => tree_in h hi hk
  obtain ⟨f, m, h1⟩ := end_sub _ _ _ _ _ (of_decide_eq_true h) i (Nat.zero_le _) hi
  have h2 := end_more _ _ h1 (f + l.length) (by omega)
  have h3 := grow_size l _ _ _ h2
  have h4 := end_le _ _ _ _ _ h2
  rw [treeAt, grow_any l hk l.length (f + l.length) i hi (by omega) (by omega)]
  omega
theorem treeAt_ok {l : List Node} (hk : ∀ i, i < l.length → ∀ k ∈ nkids l i, (i : Int) < k ∧ k < l.length) (hn : ∀ n ∈ l, nodeT n n.kids.length) : ∀ (f i : Nat), i < l.length → l.length - i ≤ f → (growT l f i).ok
  | 0, i, hi, hf => by omega
  | f + 1, i, hi, hf => by
    rw [growT, Tr.ok]
    have e : l.getD i default = l[i] := by simp [List.getD_eq_getElem?_getD, hi]
    refine ⟨?_, oks_of fun t ht => ?_⟩
    · rw [List.length_map, nkids, e]; exact hn _ (List.getElem_mem hi)
    · obtain ⟨k, hk', rfl⟩ := List.mem_map.1 ht
      have := hk i hi k hk'
      exact treeAt_ok hk hn f k.toNat (by omega) (by omega)
end Go.Proofs.YtpomnlejlgojaaaGreat
