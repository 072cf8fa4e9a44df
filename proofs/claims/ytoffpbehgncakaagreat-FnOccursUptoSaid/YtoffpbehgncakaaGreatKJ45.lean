/-
 Binds OF THE PROGRAM AND OF THE REFERENCE, by abstract texts. Conditions: none.
-/
import Derived.Test.YtoffpbehgncakaaGreatKPgmW4
import Derived.Test.YtoffpbehgncakaaGreatKJ39
set_option linter.unusedVariables false
set_option linter.unusedSimpArgs false
set_option maxRecDepth 100000
namespace Go.Proofs.YtoffpbehgncakaaGreat
open Go.RowKit Go.Proofs.YtoffpbehgncakaaGreat.Av Go.Proofs.YtoffpbehgncakaaGreat.Ml
open Go.Proofs.YtoffpbehgncakaaGreat.Av.AVal (av)

theorem R1 (l : List BD) (hx : AE.bulk l ≤ 1099511627776) : AH Tryz.prog 39 [.agg [.sl (l.map av)]] (.sl ((varsOf l).map av)) := by
 have hl := A2 l
 refine G1.F rfl (by simp; exact Ap.agg (by simp; exact AQ l)) (AQ _) ?_
 simp +contextual -dsimp only [↓SD, SU, simprocAttr, G1, Aa]
 intro v
 refine AB (X := Nat × Nat) (fun x => ⟨[(3, .row 6 x.2 (varsOf (l.take x.1)).length), (8, .sl (l.map av)), (9, .int .i64 l.length), (10, .int .i64 x.1)], [(6, ⟨x.2, false, 9, 1, (varsOf (l.take x.1)).map av⟩)]⟩) (fun x => x.1 ≤ l.length) (fun x => l.length - x.1) (0, v) (Nat.zero_le _) (by simp +contextual -dsimp only [↓SD, SU, simprocAttr, varsOf, List.filterMap_nil]) (by simp +contextual -dsimp only [↓SD, SU, simprocAttr, varsOf, List.filterMap_nil]) ?_
 rintro ⟨k, u⟩ hk
 simp only at hk
 by_cases hlt : k < l.length
 ·have e := getD_map av l k .top hlt
  have hv := Ie hlt
  have hvl := Hc (l.take k)
  rw [List.length_take] at hvl
  generalize l[k] = a at *
  simp +contextual -dsimp only [↓SD, SU, simprocAttr, Aa, hlt, e, Bw]
  intro w
  (repeat' (first | intro _ | refine And.intro ?_ ?_))
  all_goals first | omega | (unfold maxLen; omega) | skip
  ·rename_i hk2 u'
   rw [if_pos hk2] at hv
   exact Ai.le ⟨(k + 1, u'), ⟨hlt, (by first | omega | (simp only; omega))⟩, rfl⟩ (by simp +contextual -dsimp only [↓SD, SU, simprocAttr, Int.natCast_add, hv, List.length_append]) (by simp +contextual -dsimp only [↓SD, SU, simprocAttr, hv, Ab, DT, List.map_append, Ec])
  ·rename_i hk2
   rw [if_neg hk2, List.append_nil] at hv
   exact Ai.le ⟨(k + 1, u), ⟨hlt, (by first | omega | (simp only; omega))⟩, rfl⟩ (by simp +contextual -dsimp only [↓SD, SU, simprocAttr, Int.natCast_add, hv]) (by simp +contextual -dsimp only [↓SD, SU, simprocAttr, hv])
 ·obtain rfl : k = l.length := by omega
  simp +contextual -dsimp only [↓SD, SU, simprocAttr, Aa, Nat.lt_irrefl, List.take_length, Ab, DT]

theorem Q8 (q : Pat) : (varsOf q.nodes).length ≤ AE.bulk q := by
 have h1 := Hc q.nodes
 have h2 := A2 q.nodes
 have h3 : AE.bulk q = AE.bulk q.nodes + 1 := rfl
 omega
end Go.Proofs.YtoffpbehgncakaaGreat
set_option linter.unusedVariables false
namespace Go.Proofs.YtoffpbehgncakaaGreat
open Go.RowKit Go.Proofs.YtoffpbehgncakaaGreat.Av Go.Proofs.YtoffpbehgncakaaGreat.Ml
open Go.Proofs.YtoffpbehgncakaaGreat.Av.AVal (av)

inductive Tr where
 | mk (n : Node) (ks : List Tr)
theorem Tr.ind {P : Tr → Prop} (h : ∀ n ks, (∀ k ∈ ks, P k) → P (.mk n ks)) : ∀ t, P t
 | .mk n ks => h n ks fun k hk => Tr.ind h k
termination_by t => SizeOf.sizeOf t
decreasing_by
 have := List.sizeOf_lt_of_mem hk
 simp only [Tr.mk.sizeOf_spec]
 omega

mutual
def exA : Tr → AV
 | .mk n ks => .obj [.int .i64 n.kind, .int .i64 n.pos, .int .i64 n.n, .str n.s, .sl (ZH ks), .sl (n.AL.map av)]
def ZH : List Tr → List AV
 | [] => []
 | t :: ts => exA t :: ZH ts
end
mutual
def Ut : Tr → AV
 | .mk n ks => .agg [.int .i64 n.kind, .int .i64 n.pos, .int .i64 n.n, .str n.s, .sl (n.kids.map av), .sl (n.AL.map av), .sl (Ra ks)]
def Ra : List Tr → List AV
 | [] => []
 | t :: ts => Ut t :: Ra ts
end
theorem S8 : ∀ ks, ZH ks = ks.map exA
 | [] => by rw [ZH]; rfl
 | t :: ts => by rw [ZH, S8 ts]; rfl
theorem OE : ∀ ks, Ra ks = ks.map Ut
 | [] => by rw [Ra]; rfl
 | t :: ts => by rw [Ra, OE ts]; rfl
theorem I1 (n : Node) (ks : List Tr) : exA (.mk n ks) = .obj [.int .i64 n.kind, .int .i64 n.pos, .int .i64 n.n, .str n.s, .sl (ks.map exA), .sl (n.AL.map av)] := by rw [exA, S8]
theorem I8 (n : Node) (ks : List Tr) : Ut (.mk n ks) = .agg [.int .i64 n.kind, .int .i64 n.pos, .int .i64 n.n, .str n.s, .sl (n.kids.map av), .sl (n.AL.map av), .sl (ks.map Ut)] := by rw [Ut, OE]
theorem Yi : ∀ t, Ap (exA t) := Tr.ind fun n ks ih => by
 rw [I1]
 refine Ap.obj ?_
 simp only [List.mem_cons, List.not_mem_nil, or_false]
 rintro x (rfl | rfl | rfl | rfl | rfl | rfl)
 ·exact Cr _
 ·exact Cr _
 ·exact Cr _
 ·exact Ap.str _
 ·refine Ap.sl fun e he y hy => ?_
  obtain ⟨k, hk, rfl⟩ := List.mem_map.1 he
  have h := ih k hk
  cases k with | mk m js =>
  rw [I1] at hy h
  simp only [AV.cells, List.mem_cons, List.not_mem_nil, or_false] at hy
  subst hy
  exact h
 ·exact AQ n.AL
theorem Us : ∀ t, ∀ y ∈ (Ut t).cells, Ap y := Tr.ind fun n ks ih => by
 rw [I8]
 simp only [AV.cells, List.mem_cons, List.not_mem_nil, or_false]
 rintro x (rfl | rfl | rfl | rfl | rfl | rfl | rfl)
 ·exact Cr _
 ·exact Cr _
 ·exact Cr _
 ·exact Ap.str _
 ·exact AQ n.kids
 ·exact AQ n.AL
 ·refine Ap.sl fun e he y hy => ?_
  obtain ⟨k, hk, rfl⟩ := List.mem_map.1 he
  exact ih k hk y hy
instance : AVal Tr := ⟨exA, 1, fun x => (by cases x; rw [I1]; rfl), fun x => (by cases x; rw [I1]; rfl), fun x y hy => (by
 have h := Yi x
 cases x with | mk n ks =>
 rw [I1] at hy h
 simp only [AV.cells, List.mem_cons, List.not_mem_nil, or_false] at hy
 subst hy
 exact h), fun x hp => (by cases x; rw [I1]; rfl), fun x y hy => (by
 cases x with | mk n ks =>
 rw [I1] at hy
 simp only [AV.cells, List.mem_cons, List.not_mem_nil, or_false] at hy
 subst hy
 rfl)⟩
structure Sub where
 t : Tr
instance : AVal Sub := ⟨fun x => Ut x.t, 7, fun x => (by obtain ⟨⟨n, ks⟩⟩ := x; simp only [I8]; rfl), fun x => (by obtain ⟨⟨n, ks⟩⟩ := x; simp only [I8]; rfl), fun x y hy => Us x.t y hy, fun x hp => (by obtain ⟨⟨n, ks⟩⟩ := x; simp only [I8]; rfl), fun x y hy => (by
 obtain ⟨⟨n, ks⟩⟩ := x
 simp only [I8, AV.cells, List.mem_cons, List.not_mem_nil, or_false] at hy
 rcases hy with rfl | rfl | rfl | rfl | rfl | rfl | rfl <;> rfl)⟩
theorem JH (n : Node) (ks : List Tr) : av (Tr.mk n ks) = .obj [.int .i64 n.kind, .int .i64 n.pos, .int .i64 n.n, .str n.s, .sl (ks.map av), .sl (n.AL.map av)] := I1 n ks
theorem NN (n : Node) (ks : List Tr) : av (Sub.mk (Tr.mk n ks)) = .agg [.int .i64 n.kind, .int .i64 n.pos, .int .i64 n.n, .str n.s, .sl (n.kids.map av), .sl (n.AL.map av), .sl ((ks.map Sub.mk).map av)] := by
 rw [List.map_map]; exact I8 n ks

mutual
def Tr.size : Tr → Nat
 | .mk _ ks => Tr.EJ ks + 1
def Tr.EJ : List Tr → Nat
 | [] => 0
 | t :: ts => t.size + Tr.EJ ts
end
def Wr (n : Node) (m : Nat) : Prop := (n.kind = 3 → m = 0) ∧ (n.kind = 13 → m = n.AL.length + 1) ∧ AE.bulk n ≤ 1099511627776
mutual
def Tr.ok : Tr → Prop
 | .mk n ks => Wr n ks.length ∧ Tr.oks ks
def Tr.oks : List Tr → Prop
 | [] => True
 | t :: ts => t.ok ∧ Tr.oks ts
end
theorem Qw : ∀ {ks : List Tr} {k : Tr}, Tr.oks ks → k ∈ ks → k.ok
 | [], k, _, hk => by cases hk
 | t :: ts, k, h, hk => by
  rw [Tr.oks] at h
  rcases List.mem_cons.1 hk with rfl | hk
  ·exact h.1
  ·exact Qw h.2 hk
theorem Y7 : ∀ {ks : List Tr}, (∀ k ∈ ks, k.ok) → Tr.oks ks
 | [], _ => by rw [Tr.oks]; trivial
 | t :: ts, h => by rw [Tr.oks]; exact ⟨h t (by simp), Y7 fun k hk => h k (by simp [hk])⟩
theorem K1 : ∀ {ks : List Tr} {k : Tr}, k ∈ ks → k.size ≤ Tr.EJ ks
 | [], k, hk => by cases hk
 | t :: ts, k, hk => by
  rw [Tr.EJ]
  rcases List.mem_cons.1 hk with rfl | hk
  ·omega
  ·have := K1 hk; omega
theorem size_pos (t : Tr) : 1 ≤ t.size := by cases t; rw [Tr.size]; omega
theorem K2 : ∀ ks : List Tr, ks.length ≤ Tr.EJ ks
 | [] => by rw [Tr.EJ]; exact Nat.zero_le _
 | t :: ts => by rw [Tr.EJ]; have := K2 ts; have := size_pos t; simp; omega

def Cq (l : List Node) : Nat → Nat → Tr
 | 0, _ => .mk default []
 | f + 1, i => .mk (l.getD i default) ((BZ l i).map fun k => Cq l f k.toNat)
theorem SG {K : Nat → List Int} {n : Nat} {e : Nat → Option Nat} (hle : ∀ a m, e a = some m → a < m ∧ m ≤ n) (he : ∀ a m, e a = some m → ∀ i, a ≤ i → i < m → ∃ f' m', Cl K n f' i = some m') :
  ∀ {ks : List Int} {a m : Nat}, a ≤ n → Cy e ks a = some m → ∀ i, a ≤ i → i < m → ∃ f' m', Cl K n f' i = some m'
 | [], a, m, _, h => by cases h; intro i h1 h2; omega
 | k :: ks, a, m, ha, h => by
  unfold Cy at h
  split at h
  ·split at h
   ·rename_i m' hm'
    intro i h4 h5
    rcases Nat.lt_or_ge i m' with h6 | h6
    ·exact he _ _ hm' i h4 h6
    ·exact SG hle he (hle _ _ hm').2 h i h6 h5
   ·cases h
  ·cases h
theorem W2 (K : Nat → List Int) (n : Nat) : ∀ (f a m : Nat), Cl K n f a = some m → ∀ i, a ≤ i → i < m → ∃ f' m', Cl K n f' i = some m'
 | 0, a, m, h => by cases h
 | f + 1, a, m, h => by
  intro i hi him
  rcases Nat.lt_or_ge a i with h2 | h2
  ·unfold Cl at h
   split at h
   ·exact SG (I2 K n f) (W2 K n f) (by omega) h i (by omega) him
   ·cases h
  ·obtain rfl : i = a := by omega
   exact ⟨_, _, h⟩
theorem SS (l : List Node) (hk : ∀ i, i < l.length → ∀ k ∈ BZ l i, (i : Int) < k ∧ k < l.length) : ∀ (f g i : Nat), i < l.length → l.length - i ≤ f → l.length - i ≤ g → Cq l f i = Cq l g i
 | 0, g, i, hi, hf, _ => by omega
 | f + 1, 0, i, hi, _, hg => by omega
 | f + 1, g + 1, i, hi, hf, hg => by
  rw [Cq, Cq]
  congr 1
  refine List.map_congr_left fun k hk' => ?_
  have := hk i hi k hk'
  exact SS l hk f g k.toNat (by omega) (by omega) (by omega)
theorem Ng {l : List Node} {f g : Nat} (ih : ∀ a m, Cl (BZ l) l.length f a = some m → (Cq l g a).size + a = m) : ∀ {ks : List Int} {a m : Nat}, Cy (Cl (BZ l) l.length f) ks a = some m → Tr.EJ (ks.map fun k => Cq l g k.toNat) + a = m
 | [], a, m, h => by cases h; rw [List.map_nil, Tr.EJ]; omega
 | k :: ks, a, m, h => by
  unfold Cy at h
  split at h
  ·rename_i hk
   split at h
   ·rename_i m' hm'
    have h1 := ih _ _ hm'
    have h2 := Ng ih h
    rw [List.map_cons, Tr.EJ, hk, Int.toNat_natCast]
    omega
   ·cases h
  ·cases h
theorem Pt (l : List Node) : ∀ (f a m : Nat), Cl (BZ l) l.length f a = some m → (Cq l f a).size + a = m
 | 0, a, m, h => by cases h
 | f + 1, a, m, h => by
  unfold Cl at h
  split at h
  ·rw [Cq, Tr.size]
   have := Ng (Pt l f) h
   omega
  ·cases h
def JK (l : List Node) (i : Nat) : Tr := Cq l l.length i
theorem Lq {l : List Node} (h : Eg (BZ l) l.length = true) {i : Nat} (hi : i < l.length) : (JK l i).size ≤ l.length := by
 have hk : ∀ i, i < l.length → ∀ k ∈ BZ l i, (i : Int) < k ∧ k < l.length := fun i hi k hk => I7 h hi hk
 obtain ⟨f, m, h1⟩ := W2 _ _ _ _ _ (of_decide_eq_true h) i (Nat.zero_le _) hi
 have h2 := ZJ _ _ h1 (f + l.length) (by omega)
 have h3 := Pt l _ _ _ h2
 have h4 := I2 _ _ _ _ _ h2
 rw [JK, SS l hk l.length (f + l.length) i hi (by omega) (by omega)]
 omega
theorem KY {l : List Node} (hk : ∀ i, i < l.length → ∀ k ∈ BZ l i, (i : Int) < k ∧ k < l.length) (hn : ∀ n ∈ l, Wr n n.kids.length) : ∀ (f i : Nat), i < l.length → l.length - i ≤ f → (Cq l f i).ok
 | 0, i, hi, hf => by omega
 | f + 1, i, hi, hf => by
  rw [Cq, Tr.ok]
  have e : l.getD i default = l[i] := by simp [List.getD_eq_getElem?_getD, hi]
  refine ⟨?_, Y7 fun t ht => ?_⟩
  ·rw [List.length_map, BZ, e]; exact hn _ (List.getElem_mem hi)
  ·obtain ⟨k, hk', rfl⟩ := List.mem_map.1 ht
   have := hk i hi k hk'
   exact KY hk hn f k.toNat (by omega) (by omega)
end Go.Proofs.YtoffpbehgncakaaGreat
set_option linter.unusedVariables false
set_option linter.unusedSimpArgs false
set_option maxRecDepth 100000
namespace Go.Proofs.YtoffpbehgncakaaGreat
open Go.RowKit Go.Proofs.YtoffpbehgncakaaGreat.Av Go.Proofs.YtoffpbehgncakaaGreat.Ml
open Go.Proofs.YtoffpbehgncakaaGreat.Av.AVal (av)

theorem Mo (t : Tr) : (av t).cells = [av t] := by cases t; rw [JH]; rfl
theorem Ma (t : Tr) (hp : Hp) : (av t).BW hp = av t := by cases t; rw [JH]; rfl
theorem Aar (t : Tr) (hp : Hp) : (av t).Bu hp = av t := by cases t; rw [JH]; rfl
theorem Abo (t : Tr) (hp : Hp) : (av t).pur hp = av t := AVal.nop t hp
theorem Abp (t : Tr) : (av t).one = true := by cases t; rw [JH]; rfl
theorem AbZ (t : Tr) : (av t).ok = true := AVal.ok t
theorem Ql (t : Sub) : (av t).cells.length = 7 := AVal.len t
theorem Aas (t : Sub) (hp : Hp) : (av t).pur hp = av t := AVal.nop t hp
theorem Aat (t : Sub) : AV.agg (List.take 7 (av t).cells) = av t := by
 obtain ⟨⟨n, ks⟩⟩ := t
 rw [NN]; rfl
theorem Abq (t : Sub) : (av t).ok = true := AVal.ok t
theorem ZL (x : AV) (h : x.ok = true) (F : Nat → AV) (esz i : Nat) (es : List AV) (ps : List (Nat × AF)) (k : List AV → Prop) : F2 x F esz i es ps k = ((x.cells.length = esz ∧ i < es.length) ∧ EG F esz (es.set i x) ps k) := by simp [F2, h]
end Go.Proofs.YtoffpbehgncakaaGreat
