/-
 THE GROUND OF DATA, in one text. Conditions: none.
-/
import Derived.Test.YtjifpdcflankpaaGreatRPackQ

set_option linter.unusedVariables false
namespace Go.Proofs.YtjifpdcflankpaaGreat
open Go.RowKit Go.Proofs.YtjifpdcflankpaaGreat.Av Go.Proofs.YtjifpdcflankpaaGreat.Ml
open Go.Proofs.YtjifpdcflankpaaGreat.Av.AVal (av)

inductive Tr where
 | mk (n : Node) (ks : List Tr)
theorem Tr.ind {P : Tr → Prop} (h : ∀ n ks, (∀ k ∈ ks, P k) → P (.mk n ks)) : ∀ t, P t
 | .mk n ks => h n ks fun k hk => Tr.ind h k
termination_by t => SizeOf.sizeOf t
decreasing_by
 have := List.sizeOf_lt_of_mem hk
 simp only [Tr.mk.sizeOf_spec]
 omega

mutual
def exA : Tr → AV
 | .mk n ks => .obj [.int .i64 n.kind, .int .i64 n.pos, .int .i64 n.n, .str n.s, .sl (exAs ks), .sl (n.pats.map av)]
def exAs : List Tr → List AV
 | [] => []
 | t :: ts => exA t :: exAs ts
end
mutual
def subA : Tr → AV
 | .mk n ks => .agg [.int .i64 n.kind, .int .i64 n.pos, .int .i64 n.n, .str n.s, .sl (n.kids.map av), .sl (n.pats.map av), .sl (subAs ks)]
def subAs : List Tr → List AV
 | [] => []
 | t :: ts => subA t :: subAs ts
end
theorem exAs_map : ∀ ks, exAs ks = ks.map exA
 | [] => by rw [exAs]; rfl
 | t :: ts => by rw [exAs, exAs_map ts]; rfl
theorem subAs_map : ∀ ks, subAs ks = ks.map subA
 | [] => by rw [subAs]; rfl
 | t :: ts => by rw [subAs, subAs_map ts]; rfl
theorem exA_mk (n : Node) (ks : List Tr) : exA (.mk n ks) = .obj [.int .i64 n.kind, .int .i64 n.pos, .int .i64 n.n, .str n.s, .sl (ks.map exA), .sl (n.pats.map av)] := by rw [exA, exAs_map]
theorem subA_mk (n : Node) (ks : List Tr) : subA (.mk n ks) = .agg [.int .i64 n.kind, .int .i64 n.pos, .int .i64 n.n, .str n.s, .sl (n.kids.map av), .sl (n.pats.map av), .sl (ks.map subA)] := by rw [subA, subAs_map]
theorem exA_clean : ∀ t, AvPure (exA t) := Tr.ind fun n ks ih => by
 rw [exA_mk]
 refine AvPure.obj ?_
 simp only [List.mem_cons, List.not_mem_nil, or_false]
 rintro x (rfl | rfl | rfl | rfl | rfl | rfl)
 ·exact pint _
 ·exact pint _
 ·exact pint _
 ·exact AvPure.str _
 ·refine AvPure.sl fun e he y hy => ?_
  obtain ⟨k, hk, rfl⟩ := List.mem_map.1 he
  have h := ih k hk
  cases k with | mk m js =>
  rw [exA_mk] at hy h
  simp only [AV.cells, List.mem_cons, List.not_mem_nil, or_false] at hy
  subst hy
  exact h
 ·exact lav_clean n.pats
theorem subA_cells : ∀ t, ∀ y ∈ (subA t).cells, AvPure y := Tr.ind fun n ks ih => by
 rw [subA_mk]
 simp only [AV.cells, List.mem_cons, List.not_mem_nil, or_false]
 rintro x (rfl | rfl | rfl | rfl | rfl | rfl | rfl)
 ·exact pint _
 ·exact pint _
 ·exact pint _
 ·exact AvPure.str _
 ·exact lav_clean n.kids
 ·exact lav_clean n.pats
 ·refine AvPure.sl fun e he y hy => ?_
  obtain ⟨k, hk, rfl⟩ := List.mem_map.1 he
  exact ih k hk y hy
instance : AVal Tr := ⟨exA, 1, fun x => (by cases x; rw [exA_mk]; rfl), fun x => (by cases x; rw [exA_mk]; rfl), fun x y hy => (by
 have h := exA_clean x
 cases x with | mk n ks =>
 rw [exA_mk] at hy h
 simp only [AV.cells, List.mem_cons, List.not_mem_nil, or_false] at hy
 subst hy
 exact h), fun x hp => (by cases x; rw [exA_mk]; rfl), fun x y hy => (by
 cases x with | mk n ks =>
 rw [exA_mk] at hy
 simp only [AV.cells, List.mem_cons, List.not_mem_nil, or_false] at hy
 subst hy
 rfl)⟩
structure Sub where
 t : Tr
instance : AVal Sub := ⟨fun x => subA x.t, 7, fun x => (by obtain ⟨⟨n, ks⟩⟩ := x; simp only [subA_mk]; rfl), fun x => (by obtain ⟨⟨n, ks⟩⟩ := x; simp only [subA_mk]; rfl), fun x y hy => subA_cells x.t y hy, fun x hp => (by obtain ⟨⟨n, ks⟩⟩ := x; simp only [subA_mk]; rfl), fun x y hy => (by
 obtain ⟨⟨n, ks⟩⟩ := x
 simp only [subA_mk, AV.cells, List.mem_cons, List.not_mem_nil, or_false] at hy
 rcases hy with rfl | rfl | rfl | rfl | rfl | rfl | rfl <;> rfl)⟩
theorem av_Tr (n : Node) (ks : List Tr) : av (Tr.mk n ks) = .obj [.int .i64 n.kind, .int .i64 n.pos, .int .i64 n.n, .str n.s, .sl (ks.map av), .sl (n.pats.map av)] := exA_mk n ks
theorem av_Sub (n : Node) (ks : List Tr) : av (Sub.mk (Tr.mk n ks)) = .agg [.int .i64 n.kind, .int .i64 n.pos, .int .i64 n.n, .str n.s, .sl (n.kids.map av), .sl (n.pats.map av), .sl ((ks.map Sub.mk).map av)] := by
 rw [List.map_map]; exact subA_mk n ks

mutual
def Tr.size : Tr → Nat
 | .mk _ ks => Tr.sizes ks + 1
def Tr.sizes : List Tr → Nat
 | [] => 0
 | t :: ts => t.size + Tr.sizes ts
end
def nodeT (n : Node) (m : Nat) : Prop := (n.kind = 3 → m = 0) ∧ (n.kind = 13 → m = n.pats.length + 1) ∧ Bulk.bulk n ≤ 4294967296
mutual
def Tr.ok : Tr → Prop
 | .mk n ks => nodeT n ks.length ∧ Tr.oks ks
def Tr.oks : List Tr → Prop
 | [] => True
 | t :: ts => t.ok ∧ Tr.oks ts
end
theorem oks_mem : ∀ {ks : List Tr} {k : Tr}, Tr.oks ks → k ∈ ks → k.ok
 | [], k, _, hk => by cases hk
 | t :: ts, k, h, hk => by
  rw [Tr.oks] at h
  rcases List.mem_cons.1 hk with rfl | hk
  ·exact h.1
  ·exact oks_mem h.2 hk
theorem oks_of : ∀ {ks : List Tr}, (∀ k ∈ ks, k.ok) → Tr.oks ks
 | [], _ => by rw [Tr.oks]; trivial
 | t :: ts, h => by rw [Tr.oks]; exact ⟨h t (by simp), oks_of fun k hk => h k (by simp [hk])⟩
theorem size_pos (t : Tr) : 1 ≤ t.size := by cases t; rw [Tr.size]; omega
theorem sizes_len : ∀ ks : List Tr, ks.length ≤ Tr.sizes ks
 | [] => by rw [Tr.sizes]; exact Nat.zero_le _
 | t :: ts => by rw [Tr.sizes]; have := sizes_len ts; have := size_pos t; simp; omega

def growT (l : List Node) : Nat → Nat → Tr
 | 0, _ => .mk default []
 | f + 1, i => .mk (l.getD i default) ((nkids l i).map fun k => growT l f k.toNat)
theorem kids_sub {K : Nat → List Int} {n : Nat} {e : Nat → Option Nat} (hle : ∀ a m, e a = some m → a < m ∧ m ≤ n) (he : ∀ a m, e a = some m → ∀ i, a ≤ i → i < m → ∃ f' m', endF K n f' i = some m') :
  ∀ {ks : List Int} {a m : Nat}, a ≤ n → kidsF e ks a = some m → ∀ i, a ≤ i → i < m → ∃ f' m', endF K n f' i = some m'
 | [], a, m, _, h => by cases h; intro i h1 h2; omega
 | k :: ks, a, m, ha, h => by
  unfold kidsF at h
  split at h
  ·split at h
   ·rename_i m' hm'
    intro i h4 h5
    rcases Nat.lt_or_ge i m' with h6 | h6
    ·exact he _ _ hm' i h4 h6
    ·exact kids_sub hle he (hle _ _ hm').2 h i h6 h5
   ·cases h
  ·cases h
theorem end_sub (K : Nat → List Int) (n : Nat) : ∀ (f a m : Nat), endF K n f a = some m → ∀ i, a ≤ i → i < m → ∃ f' m', endF K n f' i = some m'
 | 0, a, m, h => by cases h
 | f + 1, a, m, h => by
  intro i hi him
  rcases Nat.lt_or_ge a i with h2 | h2
  ·unfold endF at h
   split at h
   ·exact kids_sub (end_le K n f) (end_sub K n f) (by omega) h i (by omega) him
   ·cases h
  ·obtain rfl : i = a := by omega
   exact ⟨_, _, h⟩
theorem grow_any (l : List Node) (hk : ∀ i, i < l.length → ∀ k ∈ nkids l i, (i : Int) < k ∧ k < l.length) : ∀ (f g i : Nat), i < l.length → l.length - i ≤ f → l.length - i ≤ g → growT l f i = growT l g i
 | 0, g, i, hi, hf, _ => by omega
 | f + 1, 0, i, hi, _, hg => by omega
 | f + 1, g + 1, i, hi, hf, hg => by
  rw [growT, growT]
  congr 1
  refine List.map_congr_left fun k hk' => ?_
  have := hk i hi k hk'
  exact grow_any l hk f g k.toNat (by omega) (by omega) (by omega)
theorem grow_sizes {l : List Node} {f g : Nat} (ih : ∀ a m, endF (nkids l) l.length f a = some m → (growT l g a).size + a = m) : ∀ {ks : List Int} {a m : Nat}, kidsF (endF (nkids l) l.length f) ks a = some m → Tr.sizes (ks.map fun k => growT l g k.toNat) + a = m
 | [], a, m, h => by cases h; rw [List.map_nil, Tr.sizes]; omega
 | k :: ks, a, m, h => by
  unfold kidsF at h
  split at h
  ·rename_i hk
   split at h
   ·rename_i m' hm'
    have h1 := ih _ _ hm'
    have h2 := grow_sizes ih h
    rw [List.map_cons, Tr.sizes, hk, Int.toNat_natCast]
    omega
   ·cases h
  ·cases h
theorem grow_size (l : List Node) : ∀ (f a m : Nat), endF (nkids l) l.length f a = some m → (growT l f a).size + a = m
 | 0, a, m, h => by cases h
 | f + 1, a, m, h => by
  unfold endF at h
  split at h
  ·rw [growT, Tr.size]
   have := grow_sizes (grow_size l f) h
   omega
  ·cases h
def treeAt (l : List Node) (i : Nat) : Tr := growT l l.length i
theorem treeAt_size {l : List Node} (h : treeB (nkids l) l.length = true) {i : Nat} (hi : i < l.length) : (treeAt l i).size ≤ l.length := by
 have hk : ∀ i, i < l.length → ∀ k ∈ nkids l i, (i : Int) < k ∧ k < l.length := fun i hi k hk => tree_in h hi hk
 obtain ⟨f, m, h1⟩ := end_sub _ _ _ _ _ (of_decide_eq_true h) i (Nat.zero_le _) hi
 have h2 := end_more _ _ h1 (f + l.length) (by omega)
 have h3 := grow_size l _ _ _ h2
 have h4 := end_le _ _ _ _ _ h2
 rw [treeAt, grow_any l hk l.length (f + l.length) i hi (by omega) (by omega)]
 omega
theorem treeAt_ok {l : List Node} (hk : ∀ i, i < l.length → ∀ k ∈ nkids l i, (i : Int) < k ∧ k < l.length) (hn : ∀ n ∈ l, nodeT n n.kids.length) : ∀ (f i : Nat), i < l.length → l.length - i ≤ f → (growT l f i).ok
 | 0, i, hi, hf => by omega
 | f + 1, i, hi, hf => by
  rw [growT, Tr.ok]
  have e : l.getD i default = l[i] := by simp [List.getD_eq_getElem?_getD, hi]
  refine ⟨?_, oks_of fun t ht => ?_⟩
  ·rw [List.length_map, nkids, e]; exact hn _ (List.getElem_mem hi)
  ·obtain ⟨k, hk', rfl⟩ := List.mem_map.1 ht
   have := hk i hi k hk'
   exact treeAt_ok hk hn f k.toNat (by omega) (by omega)
end Go.Proofs.YtjifpdcflankpaaGreat

namespace Go.Proofs.YtjifpdcflankpaaGreat
open Go.RowKit Go.Proofs.YtjifpdcflankpaaGreat.Av Go.Proofs.YtjifpdcflankpaaGreat.Ml
open Go.Proofs.YtjifpdcflankpaaGreat.Av.AVal (av)

def renX (q : Pat) : Pat := ⟨q.nodes.map fun n => if n.kind = 2 then { n with s := bs [120] } else n⟩
def givenB (s : ByteArray) : Bool := decide (s = bs [112, 114, 105, 110, 116]) || decide (s = bs [115, 97, 121]) || decide (s = bs [114, 101, 97, 100]) || decide (s = bs [115, 105, 122, 101])
def bindsK (k : Int) : Bool := decide (k = 5) || decide (k = 7) || decide (k = 8) || decide (k = 15)
def lastF (s : ByteArray) (env : List ByteArray) : Nat → Option Nat
 | 0 => none
 | m + 1 => if env[m]? = some s then some (env.length - 1 - m) else lastF s env m
def lastIx (s : ByteArray) (env : List ByteArray) : Option Nat := lastF s env env.length
def innerE (n : Node) (i : Nat) (env : List ByteArray) : List ByteArray :=
 if n.kind = 13 ∧ 0 < i then env ++ varsOf (n.pats.getD (i - 1) ⟨[]⟩).nodes
 else if n.kind = 5 ∨ n.kind = 8 ∨ i = 1 ∧ (n.kind = 7 ∨ n.kind = 15) then env ++ [n.s]
 else env
mutual
def coreT : Tr → List ByteArray → Option Tr
 | .mk n ks, env =>
  if n.kind = 3 then
   match lastIx n.s env with
   | some k => some (.mk { n with pos := 0, n := (k : Int), s := bs [], pats := [] } [])
   | none => if givenB n.s = true then some (.mk { n with pos := 0, pats := [] } []) else none
  else (coreTs n 0 ks env).map fun ks' => .mk { n with pos := 0, s := if bindsK n.kind = true then bs [120] else n.s, pats := n.pats.map renX } ks'
def coreTs (n : Node) : Nat → List Tr → List ByteArray → Option (List Tr)
 | _, [], _ => some []
 | i, t :: ts, env =>
  match coreT t (innerE n i env), coreTs n (i + 1) ts env with
  | some t', some ts' => some (t' :: ts')
  | _, _ => none
end
mutual
def Tr.wt : Tr → Nat
 | .mk n ks => 1 + (n.pats.map fun q => (varsOf q.nodes).length).sum + Tr.wts ks
def Tr.wts : List Tr → Nat
 | [] => 0
 | t :: ts => t.wt + Tr.wts ts
end
mutual
def Tr.pne : Tr → Prop
 | .mk n ks => (∀ q ∈ n.pats, q.nodes ≠ []) ∧ Tr.pnes ks
def Tr.pnes : List Tr → Prop
 | [] => True
 | t :: ts => t.pne ∧ Tr.pnes ts
end
theorem pnes_mem : ∀ {ks : List Tr} {k : Tr}, Tr.pnes ks → k ∈ ks → k.pne
 | [], k, _, hk => by cases hk
 | t :: ts, k, h, hk => by
  rw [Tr.pnes] at h
  rcases List.mem_cons.1 hk with rfl | hk
  ·exact h.1
  ·exact pnes_mem h.2 hk
end Go.Proofs.YtjifpdcflankpaaGreat

namespace Go.Proofs.YtjifpdcflankpaaGreat
open Go.RowKit Go.Proofs.YtjifpdcflankpaaGreat.Av Go.Proofs.YtjifpdcflankpaaGreat.Ml
open Go.Proofs.YtjifpdcflankpaaGreat.Av.AVal (av)

def kidT : Nat → List Tr → List Int
 | _, [] => []
 | b, t :: ts => (b : Int) :: kidT (b + t.size) ts
mutual
def layT : Nat → Tr → List Node
 | b, .mk n ks => { n with kids := kidT (b + 1) ks } :: layTs (b + 1) ks
def layTs : Nat → List Tr → List Node
 | _, [] => []
 | b, t :: ts => layT b t ++ layTs (b + t.size) ts
end
theorem layTs_len {ks : List Tr} (h : ∀ k ∈ ks, ∀ b, (layT b k).length = k.size) : ∀ b, (layTs b ks).length = Tr.sizes ks := by
 induction ks with
 | nil => intro b; rw [layTs, Tr.sizes]; rfl
 | cons k ks ih =>
  intro b
  rw [layTs, Tr.sizes, List.length_append, h k (by simp), ih (fun k hk => h k (by simp [hk]))]
theorem layT_len : ∀ (t : Tr) (b : Nat), (layT b t).length = t.size := Tr.ind fun n ks ih b => by
 rw [layT, Tr.size, List.length_cons, layTs_len ih]
theorem layTs_len' (b : Nat) (ks : List Tr) : (layTs b ks).length = Tr.sizes ks := layTs_len (fun k _ b => layT_len k b) b
theorem layTs_snoc : ∀ (b : Nat) (ks : List Tr) (k : Tr), layTs b (ks ++ [k]) = layTs b ks ++ layT (b + Tr.sizes ks) k
 | b, [], k => by simp [layTs, Tr.sizes]
 | b, t :: ts, k => by
  rw [List.cons_append, layTs, layTs, Tr.sizes, layTs_snoc, List.append_assoc, Nat.add_assoc]
theorem kidT_snoc : ∀ (b : Nat) (ks : List Tr) (k : Tr), kidT b (ks ++ [k]) = kidT b ks ++ [((b + Tr.sizes ks : Nat) : Int)]
 | b, [], k => by simp [kidT, Tr.sizes]
 | b, t :: ts, k => by
  rw [List.cons_append, kidT, kidT, Tr.sizes, kidT_snoc, List.cons_append, Nat.add_assoc]
theorem kidT_len : ∀ (b : Nat) (ks : List Tr), (kidT b ks).length = ks.length
 | b, [] => rfl
 | b, t :: ts => by rw [kidT, List.length_cons, List.length_cons, kidT_len]
theorem sizes_app : ∀ (ks : List Tr) (k : Tr), Tr.sizes (ks ++ [k]) = Tr.sizes ks + k.size
 | [], k => by simp [Tr.sizes]
 | t :: ts, k => by rw [List.cons_append, Tr.sizes, Tr.sizes, sizes_app]; omega
theorem sizes_take : ∀ (ks : List Tr) (j : Nat) (h : j < ks.length), Tr.sizes (ks.take j) + (ks[j]).size ≤ Tr.sizes ks
 | t :: ts, 0, h => by simp [Tr.sizes]
 | t :: ts, j + 1, h => by
  have := sizes_take ts j (by simpa using h)
  simp only [List.take_succ_cons, Tr.sizes, List.getElem_cons_succ]
  omega
end Go.Proofs.YtjifpdcflankpaaGreat

namespace Go.Proofs.YtjifpdcflankpaaGreat
open Go.RowKit Go.Proofs.YtjifpdcflankpaaGreat.Av Go.Proofs.YtjifpdcflankpaaGreat.Ml
open Go.Proofs.YtjifpdcflankpaaGreat.Av.AVal (av)

def shT (s : Int) (n : Node) : Node := { n with kids := n.kids.map (· + s) }
theorem segT_split (l : List Node) {a b c : Nat} (h1 : a ≤ b) (h2 : b ≤ c) : (l.drop a).take (c - a) = (l.drop a).take (b - a) ++ (l.drop b).take (c - b) := by
 have e : c - a = (b - a) + (c - b) := by omega
 rw [e, List.take_add, List.drop_drop]
 congr 3
 omega
theorem kids_lay {l : List Node} {n f : Nat} (ih : ∀ (a m b : Nat) (s : Int), endF (nkids l) n f a = some m → (b : Int) - a = s → layT b (growT l f a) = ((l.drop a).take (m - a)).map (shT s)) (hn : n = l.length) :
  ∀ (ks : List Int) (nx m b : Nat) (s : Int), nx ≤ n → kidsF (endF (nkids l) n f) ks nx = some m → (b : Int) - nx = s →
   layTs b (ks.map fun k => growT l f k.toNat) = ((l.drop nx).take (m - nx)).map (shT s) ∧ kidT b (ks.map fun k => growT l f k.toNat) = ks.map (· + s)
 | [], nx, m, b, s, hl, h, hs => by
  rw [kidsF] at h; cases h
  rw [List.map_nil, layTs, kidT]; simp
 | k :: ks, nx, m, b, s, hl, h, hs => by
  rw [kidsF] at h
  split at h
  ·rename_i hk
   cases he : endF (nkids l) n f nx with
   | none => rw [he] at h; cases h
   | some m1 =>
    rw [he] at h
    simp only at h
    have h1 := end_le (nkids l) n f nx m1 he
    have h2 := kids_le (end_le (nkids l) n f) h h1.2
    have hz := grow_size l f nx m1 (hn ▸ he)
    have hk2 : k.toNat = nx := by omega
    rw [List.map_cons, layTs, kidT, hk2]
    generalize hT : growT l f nx = T at *
    have e1 := ih nx m1 b s he hs
    rw [hT] at e1
    obtain ⟨e2, e3⟩ := kids_lay ih hn ks m1 m (b + T.size) s h1.2 h (by omega)
    rw [e1, e2, e3, segT_split l (show nx ≤ m1 by omega) h2.1, List.map_append]
    refine ⟨rfl, ?_⟩
    rw [List.map_cons]
    congr 1
    omega
  ·cases h
theorem lay_seg {l : List Node} {n : Nat} (hn : n = l.length) : ∀ (f a m b : Nat) (s : Int), endF (nkids l) n f a = some m → (b : Int) - a = s → layT b (growT l f a) = ((l.drop a).take (m - a)).map (shT s)
 | 0, a, m, b, s, h, _ => by rw [endF] at h; cases h
 | f + 1, a, m, b, s, h, hs => by
  have hm := end_le (nkids l) n (f + 1) a m h
  rw [endF] at h
  split at h
  ·rename_i hl
   obtain ⟨e1, e2⟩ := kids_lay (fun a m b s => lay_seg hn f a m b s) hn (nkids l a) (a + 1) m (b + 1) s (by omega) h (by omega)
   have hal : a < l.length := by omega
   rw [growT, layT, e1, e2]
   have ed : l.drop a = l[a] :: l.drop (a + 1) := List.drop_eq_getElem_cons hal
   have hg : l.getD a default = l[a] := by simp [List.getD_eq_getElem?_getD, hal]
   have hk : nkids l a = l[a].kids := by rw [nkids, hg]
   obtain ⟨c, hc⟩ : ∃ c, m - a = c + 1 := ⟨m - a - 1, by omega⟩
   have hc2 : m - (a + 1) = c := by omega
   rw [ed, hc, hc2, List.take_succ_cons, List.map_cons, hk, hg]
   rfl
  ·cases h
theorem lay_grow {l : List Node} (h : treeB (nkids l) l.length = true) : layT 0 (treeAt l 0) = l := by
 have h1 := of_decide_eq_true h
 have h2 := lay_seg (l := l) rfl _ 0 l.length 0 0 h1 rfl
 have hid : ∀ n : Node, shT 0 n = n := fun n => by
  obtain ⟨a, b, c, d, e, f⟩ := n
  simp [shT]
 rw [treeAt]
 have hl : 0 < l.length := by
  cases hl : l.length with
  | zero => rw [hl] at h1; simp [endF] at h1
  | succ n => omega
 rw [grow_any l (fun i hi k hk => tree_in h hi hk) l.length (l.length + 1) 0 hl (Nat.le_refl _) (by omega), h2, List.drop_zero, Nat.sub_zero, List.take_length, List.map_congr_left (g := id) fun n _ => hid n, List.map_id]
def nodeW (n : Node) (m : Nat) : Nat := 6 + n.s.size + m + Bulk.bulk n.pats
mutual
def Tr.bulk : Tr → Nat
 | .mk n ks => nodeW n ks.length + Tr.bulks ks
def Tr.bulks : List Tr → Nat
 | [] => 0
 | t :: ts => t.bulk + Tr.bulks ts
end
theorem bulk_node (n : Node) : Bulk.bulk n = nodeW n n.kids.length := by
 have h1 : Bulk.bulk n = Bulk.bulk n.kind + Bulk.bulk n.pos + Bulk.bulk n.n + (n.s.size + 1) + Bulk.bulk n.kids + Bulk.bulk n.pats + 1 := rfl
 have h2 : Bulk.bulk n.kind = 1 := rfl
 have h3 : Bulk.bulk n.pos = 1 := rfl
 have h4 : Bulk.bulk n.n = 1 := rfl
 rw [h1, bulk_len_int, nodeW]; omega
theorem bulk_appL {α : Type} [Bulk α] : ∀ a b : List α, Bulk.bulk (a ++ b) + 1 = Bulk.bulk a + Bulk.bulk b
 | [], b => by show Bulk.bulk b + 1 = 1 + Bulk.bulk b; omega
 | x :: a, b => by
  have h := bulk_appL a b
  show Bulk.bulk x + Bulk.bulk (a ++ b) + 1 = Bulk.bulk x + Bulk.bulk a + Bulk.bulk b
  omega
theorem layTs_bulk {ks : List Tr} (h : ∀ k ∈ ks, ∀ b, Bulk.bulk (layT b k) = k.bulk + 1) : ∀ b, Bulk.bulk (layTs b ks) = Tr.bulks ks + 1 := by
 induction ks with
 | nil => intro b; rw [layTs, Tr.bulks]; rfl
 | cons k ks ih =>
  intro b
  have h1 := bulk_appL (layT b k) (layTs (b + k.size) ks)
  rw [h k (by simp), ih (fun k hk => h k (by simp [hk]))] at h1
  rw [layTs, Tr.bulks]; omega
theorem layT_bulk : ∀ (t : Tr) (b : Nat), Bulk.bulk (layT b t) = t.bulk + 1 := Tr.ind fun n ks ih b => by
 have h1 := bulk_node ({ n with kids := kidT (b + 1) ks })
 have h2 : Bulk.bulk (layT b (.mk n ks)) = Bulk.bulk ({ n with kids := kidT (b + 1) ks } : Node) + Bulk.bulk (layTs (b + 1) ks) := by rw [layT]; rfl
 rw [h2, h1, layTs_bulk ih, Tr.bulk]
 simp only [nodeW, kidT_len]; omega
end Go.Proofs.YtjifpdcflankpaaGreat

namespace Go.Proofs.YtjifpdcflankpaaGreat
open Go.RowKit Go.Proofs.YtjifpdcflankpaaGreat.Av Go.Proofs.YtjifpdcflankpaaGreat.Ml
open Go.Proofs.YtjifpdcflankpaaGreat.Av.AVal (av)

mutual
def Tr.all (P : Node → Prop) : Tr → Prop
 | .mk n ks => P n ∧ Tr.alls P ks
def Tr.alls (P : Node → Prop) : List Tr → Prop
 | [] => True
 | t :: ts => t.all P ∧ Tr.alls P ts
end
theorem alls_of {P : Node → Prop} : ∀ {ks : List Tr}, (∀ k ∈ ks, k.all P) → Tr.alls P ks
 | [], _ => by rw [Tr.alls]; trivial
 | t :: ts, h => by rw [Tr.alls]; exact ⟨h t (by simp), alls_of fun k hk => h k (by simp [hk])⟩
theorem alls_mem {P : Node → Prop} : ∀ {ks : List Tr} {k : Tr}, Tr.alls P ks → k ∈ ks → k.all P
 | [], k, _, hk => by cases hk
 | t :: ts, k, h, hk => by
  rw [Tr.alls] at h
  rcases List.mem_cons.1 hk with rfl | hk
  ·exact h.1
  ·exact alls_mem h.2 hk
theorem treeAt_all {P : Node → Prop} {l : List Node} (hk : ∀ i, i < l.length → ∀ k ∈ nkids l i, (i : Int) < k ∧ k < l.length) (hn : ∀ n ∈ l, P n) : ∀ (f i : Nat), i < l.length → l.length - i ≤ f → (growT l f i).all P
 | 0, i, hi, hf => by omega
 | f + 1, i, hi, hf => by
  rw [growT, Tr.all]
  have e : l.getD i default = l[i] := by simp [List.getD_eq_getElem?_getD, hi]
  refine ⟨e ▸ hn _ (List.getElem_mem hi), alls_of fun t ht => ?_⟩
  obtain ⟨k, hk', rfl⟩ := List.mem_map.1 ht
  have := hk i hi k hk'
  exact treeAt_all hk hn f k.toNat (by omega) (by omega)
def nodeC (n : Node) : Prop := (n.kind = 3 → n.pats = []) ∧ (∀ q ∈ n.pats, q.nodes ≠ []) ∧ (bindsK n.kind = true → 1 ≤ n.s.size) ∧ ∀ q ∈ n.pats, ∀ x ∈ q.nodes, x.kind = 2 → 1 ≤ x.s.size
theorem pne_of : ∀ t : Tr, t.all nodeC → t.pne := Tr.ind fun n ks ih h => by
 rw [Tr.all] at h
 rw [Tr.pne]
 refine ⟨h.1.2.1, ?_⟩
 have h2 := h.2
 clear h
 induction ks with
 | nil => rw [Tr.pnes]; trivial
 | cons t ts ih2 =>
  rw [Tr.alls] at h2
  rw [Tr.pnes]
  exact ⟨ih t (by simp) h2.1, ih2 (fun k hk => ih k (by simp [hk])) h2.2⟩
def coreN (n : Node) (env : List ByteArray) : Node :=
 if n.kind = 3 then match lastIx n.s env with
  | some k => { n with pos := 0, n := (k : Int), s := bs [], pats := n.pats.map renX }
  | none => { n with pos := 0, pats := n.pats.map renX }
 else { n with pos := 0, s := if bindsK n.kind = true then bs [120] else n.s, pats := n.pats.map renX }
def knownB (n : Node) (env : List ByteArray) : Bool := if n.kind = 3 then (lastIx n.s env).isSome || givenB n.s else true
mutual
def coreS : Tr → List ByteArray → Tr
 | .mk n ks, env => .mk (coreN n env) (coreSs n 0 ks env)
def coreSs (n : Node) : Nat → List Tr → List ByteArray → List Tr
 | _, [], _ => []
 | i, t :: ts, env => coreS t (innerE n i env) :: coreSs n (i + 1) ts env
end
mutual
def coreB : Tr → List ByteArray → Bool
 | .mk n ks, env => knownB n env && coreBs n 0 ks env
def coreBs (n : Node) : Nat → List Tr → List ByteArray → Bool
 | _, [], _ => true
 | i, t :: ts, env => coreB t (innerE n i env) && coreBs n (i + 1) ts env
end
theorem coreTs_as {n : Node} {env : List ByteArray} : ∀ {ks : List Tr}, (∀ k ∈ ks, ∀ env, coreT k env = if coreB k env = true then some (coreS k env) else none) → ∀ i, coreTs n i ks env = if coreBs n i ks env = true then some (coreSs n i ks env) else none
 | [], _, i => by rw [coreTs, coreBs, coreSs]; rfl
 | t :: ts, h, i => by
  rw [coreTs, coreBs, coreSs, h t (by simp), coreTs_as (fun k hk => h k (by simp [hk]))]
  cases coreB t (innerE n i env) <;> cases coreBs n (i + 1) ts env <;> simp
theorem coreT_as : ∀ t : Tr, t.ok → t.all nodeC → ∀ env, coreT t env = if coreB t env = true then some (coreS t env) else none := Tr.ind fun n ks ih hok hc env => by
 rw [Tr.ok] at hok
 rw [Tr.all] at hc
 rw [coreT, coreB, coreS]
 by_cases h3 : n.kind = 3
 ·have hks : ks = [] := List.eq_nil_of_length_eq_zero (hok.1.1 h3)
  subst hks
  have hp := hc.1.1 h3
  rw [if_pos h3, knownB, if_pos h3, coreN, if_pos h3, coreBs, coreSs]
  cases lastIx n.s env with
  | some k => simp [hp]
  | none => simp [hp]
 ·rw [if_neg h3, knownB, if_neg h3, coreN, if_neg h3, coreTs_as (fun k hk env => ih k hk (oks_mem hok.2 hk) (alls_mem hc.2 hk) env)]
  cases coreBs n 0 ks env <;> simp
theorem coreSs_len (n : Node) (env : List ByteArray) : ∀ (ks : List Tr) (i : Nat), (coreSs n i ks env).length = ks.length
 | [], i => by rw [coreSs]
 | t :: ts, i => by rw [coreSs, List.length_cons, List.length_cons, coreSs_len]
theorem coreSs_size (n : Node) : ∀ {ks : List Tr}, (∀ k ∈ ks, ∀ env, (coreS k env).size = k.size) → ∀ i env, Tr.sizes (coreSs n i ks env) = Tr.sizes ks
 | [], _, i, env => by rw [coreSs]
 | t :: ts, h, i, env => by rw [coreSs, Tr.sizes, Tr.sizes, h t (by simp), coreSs_size n (fun k hk => h k (by simp [hk]))]
theorem coreS_size : ∀ (t : Tr) (env : List ByteArray), (coreS t env).size = t.size := Tr.ind fun n ks ih env => by
 rw [coreS, Tr.size, Tr.size, coreSs_size n ih]
theorem coreSs_snoc (n : Node) (env : List ByteArray) : ∀ (ks : List Tr) (k : Tr) (i : Nat), coreSs n i (ks ++ [k]) env = coreSs n i ks env ++ [coreS k (innerE n (i + ks.length) env)]
 | [], k, i => by simp [coreSs]
 | t :: ts, k, i => by
  rw [List.cons_append, coreSs, coreSs, coreSs_snoc n env ts k (i + 1), List.length_cons, List.cons_append, show i + 1 + ts.length = i + (ts.length + 1) by omega]
theorem coreBs_snoc (n : Node) (env : List ByteArray) : ∀ (ks : List Tr) (k : Tr) (i : Nat), coreBs n i (ks ++ [k]) env = (coreBs n i ks env && coreB k (innerE n (i + ks.length) env))
 | [], k, i => by simp [coreBs]
 | t :: ts, k, i => by
  rw [List.cons_append, coreBs, coreBs, coreBs_snoc n env ts k (i + 1), List.length_cons, Bool.and_assoc, show i + 1 + ts.length = i + (ts.length + 1) by omega]
theorem bulk_sumL {α : Type} [Bulk α] : ∀ l : List α, Bulk.bulk l = (l.map Bulk.bulk).sum + 1
 | [] => rfl
 | a :: l => by
  have := bulk_sumL l
  show Bulk.bulk a + Bulk.bulk l = _
  rw [this, List.map_cons, List.sum_cons]; omega
theorem sum_le {α : Type} {f g : α → Nat} : ∀ {l : List α}, (∀ x ∈ l, f x ≤ g x) → (l.map f).sum ≤ (l.map g).sum
 | [], _ => Nat.le_refl _
 | a :: l, h => by
  have h1 := h a (by simp)
  have h2 := sum_le (l := l) (fun x hx => h x (by simp [hx]))
  simp only [List.map_cons, List.sum_cons]; omega
theorem renX_bulk {q : Pat} (h : ∀ x ∈ q.nodes, x.kind = 2 → 1 ≤ x.s.size) : Bulk.bulk (renX q) ≤ Bulk.bulk q := by
 have h1 : Bulk.bulk (renX q) = Bulk.bulk (renX q).nodes + 1 := rfl
 have h2 : Bulk.bulk q = Bulk.bulk q.nodes + 1 := rfl
 rw [h1, h2, bulk_sumL, bulk_sumL]
 have : ((renX q).nodes.map Bulk.bulk).sum ≤ (q.nodes.map Bulk.bulk).sum := by
  unfold renX
  rw [List.map_map]
  refine sum_le fun x hx => ?_
  have hx2 := h x hx
  simp only [Function.comp]
  split
  ·rename_i hk
   have h3 := hx2 hk
   show Bulk.bulk x.kind + Bulk.bulk x.n + (ByteArray.size (bs [120]) + 1) + Bulk.bulk x.kids + 1 ≤ Bulk.bulk x.kind + Bulk.bulk x.n + (x.s.size + 1) + Bulk.bulk x.kids + 1
   have h4 : ByteArray.size (bs [120]) = 1 := rfl
   omega
  ·exact Nat.le_refl _
 omega
theorem coreN_w {n : Node} (h : nodeC n) (env : List ByteArray) (m : Nat) : nodeW (coreN n env) m ≤ nodeW n m := by
 have hp : Bulk.bulk (n.pats.map renX) ≤ Bulk.bulk n.pats := by
  rw [bulk_sumL, bulk_sumL, List.map_map]
  have := sum_le (f := Bulk.bulk ∘ renX) (g := Bulk.bulk) (l := n.pats) fun q hq => renX_bulk (h.2.2.2 q hq)
  omega
 unfold coreN nodeW
 split
 ·split
  ·show 6 + ByteArray.size (bs []) + m + Bulk.bulk (n.pats.map renX) ≤ _
   have h4 : ByteArray.size (bs []) = 0 := rfl
   omega
  ·show 6 + n.s.size + m + Bulk.bulk (n.pats.map renX) ≤ _
   omega
 ·show 6 + ByteArray.size (if bindsK n.kind = true then bs [120] else n.s) + m + Bulk.bulk (n.pats.map renX) ≤ _
  split
  ·rename_i hb
   have h3 := h.2.2.1 hb
   have h4 : ByteArray.size (bs [120]) = 1 := rfl
   omega
  ·omega
theorem coreSs_bulk {n : Node} : ∀ {ks : List Tr}, (∀ k ∈ ks, ∀ env, (coreS k env).bulk ≤ k.bulk) → ∀ i env, Tr.bulks (coreSs n i ks env) ≤ Tr.bulks ks
 | [], _, i, env => by rw [coreSs]; exact Nat.le_refl _
 | t :: ts, h, i, env => by
  have h1 := h t (by simp) (innerE n i env)
  have h2 := coreSs_bulk (n := n) (ks := ts) (fun k hk => h k (by simp [hk])) (i + 1) env
  rw [coreSs, Tr.bulks, Tr.bulks]; omega
theorem coreS_bulk : ∀ (t : Tr), t.all nodeC → ∀ env, (coreS t env).bulk ≤ t.bulk := Tr.ind fun n ks ih hc env => by
 rw [Tr.all] at hc
 have h1 := coreN_w hc.1 env ks.length
 have h2 := coreSs_bulk (n := n) (fun k hk => ih k hk (alls_mem hc.2 hk)) 0 env
 rw [coreS, Tr.bulk, Tr.bulk, coreSs_len]; omega
theorem vars_le (l : List PNode) : 5 * (varsOf l).length + 1 ≤ Bulk.bulk l := by
 rw [bulk_sumL]
 have h1 := List.length_filterMap_le (fun n : PNode => if n.kind = 2 then some n.s else none) l
 have h2 : 5 * l.length ≤ (l.map Bulk.bulk).sum := by
  clear h1
  induction l with
  | nil => exact Nat.le_refl _
  | cons x l ih =>
   have h3 : Bulk.bulk x = Bulk.bulk x.kind + Bulk.bulk x.n + (x.s.size + 1) + Bulk.bulk x.kids + 1 := rfl
   have h4 : Bulk.bulk x.kind = 1 := rfl
   have h5 : Bulk.bulk x.n = 1 := rfl
   have h6 := bulk_len_int x.kids
   simp only [List.map_cons, List.sum_cons, List.length_cons]; omega
 unfold varsOf
 omega
theorem wts_bulk : ∀ {ks : List Tr}, (∀ k ∈ ks, 5 * k.wt ≤ k.bulk) → 5 * Tr.wts ks ≤ Tr.bulks ks
 | [], _ => by rw [Tr.wts, Tr.bulks]; exact Nat.le_refl _
 | t :: ts, h => by
  have h1 := h t (by simp)
  have h2 := wts_bulk (ks := ts) (fun k hk => h k (by simp [hk]))
  rw [Tr.wts, Tr.bulks]; omega
theorem wt_bulk : ∀ t : Tr, 5 * t.wt ≤ t.bulk := Tr.ind fun n ks ih => by
 have h1 := wts_bulk ih
 have h2 : 5 * (n.pats.map fun q => (varsOf q.nodes).length).sum ≤ Bulk.bulk n.pats := by
  rw [bulk_sumL]
  have : ∀ l : List Pat, 5 * (l.map fun q => (varsOf q.nodes).length).sum ≤ (l.map Bulk.bulk).sum := by
   intro l
   induction l with
   | nil => exact Nat.le_refl _
   | cons q l ih =>
    have h3 := vars_le q.nodes
    have h4 : Bulk.bulk q = Bulk.bulk q.nodes + 1 := rfl
    simp only [List.map_cons, List.sum_cons]; omega
  have := this n.pats
  omega
 rw [Tr.wt, Tr.bulk, nodeW]; omega
end Go.Proofs.YtjifpdcflankpaaGreat
