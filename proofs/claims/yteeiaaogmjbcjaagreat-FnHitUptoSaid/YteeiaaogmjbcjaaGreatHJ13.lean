/-
 THE TREES OF PATTERNS AND OF VALUES, told plainly. Conditions: none.
-/
import Derived.Test.YteeiaaogmjbcjaaGreatHDataP
import Derived.Test.YteeiaaogmjbcjaaGreatHJ06
import Derived.Test.YteeiaaogmjbcjaaGreatHJ07
set_option linter.unusedVariables false
namespace Go.Proofs.YteeiaaogmjbcjaaGreat
open Go.RowKit Go.Proofs.YteeiaaogmjbcjaaGreat.Av Go.Proofs.YteeiaaogmjbcjaaGreat.Ml
open Go.Proofs.YteeiaaogmjbcjaaGreat.Av.AVal (av)

structure Hd where
 kind : Int
 n : Int
 s : ByteArray
 deriving DecidableEq
inductive Px where
 | mk (h : Hd) (ks : List Px)
theorem Px.ind {P : Px → Prop} (h : ∀ n ks, (∀ k ∈ ks, P k) → P (.mk n ks)) : ∀ t, P t
 | .mk n ks => h n ks fun k hk => Px.ind h k
termination_by t => SizeOf.sizeOf t
decreasing_by
 have := List.sizeOf_lt_of_mem hk
 simp only [Px.mk.sizeOf_spec]
 omega
def Px.hd : Px → Hd
 | .mk h _ => h
def Px.kids : Px → List Px
 | .mk _ ks => ks
mutual
def pxA : Px → AV
 | .mk n ks => .obj [.int .i64 n.kind, .int .i64 n.n, .str n.s, .sl (pxAs ks)]
def pxAs : List Px → List AV
 | [] => []
 | t :: ts => pxA t :: pxAs ts
end
theorem pxAs_map : ∀ ks, pxAs ks = ks.map pxA
 | [] => by rw [pxAs]; rfl
 | t :: ts => by rw [pxAs, pxAs_map ts]; rfl
theorem pxA_mk (n : Hd) (ks : List Px) : pxA (.mk n ks) = .obj [.int .i64 n.kind, .int .i64 n.n, .str n.s, .sl (ks.map pxA)] := by rw [pxA, pxAs_map]
theorem pxA_clean : ∀ t, AvPure (pxA t) := Px.ind fun n ks ih => by
 rw [pxA_mk]
 refine AvPure.obj ?_
 simp only [List.mem_cons, List.not_mem_nil, or_false]
 rintro x (rfl | rfl | rfl | rfl)
 ·exact pint _
 ·exact pint _
 ·exact AvPure.str _
 ·refine AvPure.sl fun e he y hy => ?_
  obtain ⟨k, hk, rfl⟩ := List.mem_map.1 he
  have h := ih k hk
  cases k with | mk m js =>
  rw [pxA_mk] at hy h
  simp only [AV.cells, List.mem_cons, List.not_mem_nil, or_false] at hy
  subst hy
  exact h
instance : AVal Px := ⟨pxA, 1, fun x => (by cases x; rw [pxA_mk]; rfl), fun x => (by cases x; rw [pxA_mk]; rfl), fun x y hy => (by
 have h := pxA_clean x
 cases x with | mk n ks =>
 rw [pxA_mk] at hy h
 simp only [AV.cells, List.mem_cons, List.not_mem_nil, or_false] at hy
 subst hy
 exact h), fun x hp => (by cases x; rw [pxA_mk]; rfl), fun x y hy => (by
 cases x with | mk n ks =>
 rw [pxA_mk] at hy
 simp only [AV.cells, List.mem_cons, List.not_mem_nil, or_false] at hy
 subst hy
 rfl)⟩
theorem av_Px (n : Hd) (ks : List Px) : av (Px.mk n ks) = .obj [.int .i64 n.kind, .int .i64 n.n, .str n.s, .sl (ks.map av)] := pxA_mk n ks
theorem av_px (t : Px) : av t = .obj [.int .i64 t.hd.kind, .int .i64 t.hd.n, .str t.hd.s, .sl (t.kids.map av)] := by cases t; exact av_Px _ _
theorem px_cells (t : Px) : (av t).cells = [av t] := by cases t; rw [av_Px]; rfl
theorem px_pur (t : Px) (hp : Hp) : (av t).pur hp = av t := AVal.nop t hp
theorem px_pur1 (t : Px) (hp : Hp) : (av t).pur1 hp = av t := by cases t; rw [av_Px]; rfl
theorem px_purA (t : Px) (hp : Hp) : (av t).purA hp = av t := by cases t; rw [av_Px]; rfl
theorem px_one (t : Px) : (av t).one = true := by cases t; rw [av_Px]; rfl
theorem px_ok (t : Px) : (av t).ok = true := AVal.ok t

def growX (H : Nat → Hd) (K : Nat → List Int) : Nat → Nat → Px
 | 0, i => .mk (H i) []
 | f + 1, i => .mk (H i) ((K i).map fun k => growX H K f k.toNat)
theorem growX_any {H : Nat → Hd} {K : Nat → List Int} {n : Nat} (hk : ∀ i, i < n → ∀ k ∈ K i, (i : Int) < k ∧ k < n) : ∀ (f g i : Nat), i < n → n - i ≤ f → n - i ≤ g → growX H K f i = growX H K g i
 | 0, g, i, hi, hf, _ => by omega
 | f + 1, 0, i, hi, _, hg => by omega
 | f + 1, g + 1, i, hi, hf, hg => by
  rw [growX, growX]
  congr 1
  refine List.map_congr_left fun k hk' => ?_
  have := hk i hi k hk'
  exact growX_any hk f g k.toNat (by omega) (by omega) (by omega)
def dhd (l : List DNode) (i : Nat) : Hd := ⟨(l.getD i default).kind, (l.getD i default).n, (l.getD i default).s⟩
def phd (l : List PNode) (i : Nat) : Hd := ⟨(l.getD i default).kind, (l.getD i default).n, (l.getD i default).s⟩
def dtree (l : List DNode) (i : Nat) : Px := growX (dhd l) (dkids l) l.length i
def ptree (l : List PNode) (i : Nat) : Px := growX (phd l) (pkids l) l.length i
theorem tree_mk {H : Nat → Hd} {K : Nat → List Int} {n : Nat} (hk : ∀ i, i < n → ∀ k ∈ K i, (i : Int) < k ∧ k < n) {i : Nat} (hi : i < n) : growX H K n i = .mk (H i) ((K i).map fun k => growX H K n k.toNat) := by
 obtain ⟨m, rfl⟩ : ∃ m, n = m + 1 := ⟨n - 1, by omega⟩
 rw [growX]
 congr 1
 refine List.map_congr_left fun k hk' => ?_
 have := hk i hi k hk'
 exact growX_any hk m (m + 1) k.toNat (by omega) (by omega) (by omega)
theorem dtree_mk {l : List DNode} (h : treeB (dkids l) l.length = true) {i : Nat} (hi : i < l.length) : dtree l i = .mk (dhd l i) ((dkids l i).map fun k => dtree l k.toNat) := tree_mk (fun i hi k hk => tree_in h hi hk) hi
theorem ptree_mk {l : List PNode} (h : treeB (pkids l) l.length = true) {i : Nat} (hi : i < l.length) : ptree l i = .mk (phd l i) ((pkids l i).map fun k => ptree l k.toNat) := tree_mk (fun i hi k hk => tree_in h hi hk) hi
end Go.Proofs.YteeiaaogmjbcjaaGreat
set_option linter.unusedVariables false
namespace Go.Proofs.YteeiaaogmjbcjaaGreat
open Go.RowKit Go.Proofs.YteeiaaogmjbcjaaGreat.Av Go.Proofs.YteeiaaogmjbcjaaGreat.Ml
open Go.Proofs.YteeiaaogmjbcjaaGreat.Av.AVal (av)

mutual
def hitX : Px → Px → Option (List Px)
 | .mk n ks, d => if n.kind = 1 then some [] else if n.kind = 2 then some [d] else if n.kind = d.hd.kind ∧ n.n = d.hd.n ∧ n.s = d.hd.s ∧ ks.length = d.kids.length then hitXs ks d.kids else none
def hitXs : List Px → List Px → Option (List Px)
 | [], _ => some []
 | _ :: _, [] => none
 | k :: ks, d :: ds => match hitX k d with
  | none => none
  | some a => match hitXs ks ds with
   | none => none
   | some b => some (a ++ b)
end
mutual
def pxN : Px → Nat
 | .mk _ ks => 1 + pxNs ks
def pxNs : List Px → Nat
 | [] => 0
 | t :: ts => pxN t + pxNs ts
end
theorem pxNs_sum (ks : List Px) : pxNs ks = (ks.map pxN).sum := by
 induction ks with
 | nil => rw [pxNs]; rfl
 | cons t ts ih => rw [pxNs, ih]; rfl
theorem hitXs_len {ks : List Px} (h : ∀ k ∈ ks, ∀ d l, hitX k d = some l → l.length ≤ pxN k) : ∀ ds l, hitXs ks ds = some l → l.length ≤ pxNs ks := by
 induction ks with
 | nil => intro ds l e; rw [hitXs] at e; cases e; simp
 | cons k ks ih =>
  intro ds l e
  cases ds with
  | nil => rw [hitXs] at e; cases e
  | cons d ds =>
   rw [hitXs] at e
   cases h1 : hitX k d with
   | none => rw [h1] at e; cases e
   | some a =>
    rw [h1] at e
    simp only at e
    cases h2 : hitXs ks ds with
    | none => rw [h2] at e; cases e
    | some b =>
     rw [h2] at e
     cases e
     have := h k (by simp) d a h1
     have := ih (fun k hk => h k (by simp [hk])) ds b h2
     rw [pxNs, List.length_append]; omega
theorem hitX_len : ∀ q d l, hitX q d = some l → l.length ≤ pxN q := Px.ind fun n ks ih d l e => by
 rw [hitX] at e
 rw [pxN]
 split at e
 ·cases e; simp
 ·split at e
  ·cases e; simp
  ·split at e
   ·have := hitXs_len ih _ _ e; omega
   ·cases e
theorem hitXs_app : ∀ (xs bs xs' bs' : List Px), xs.length = bs.length → hitXs (xs ++ xs') (bs ++ bs') = match hitXs xs bs with
  | none => none
  | some a => match hitXs xs' bs' with
   | none => none
   | some b => some (a ++ b)
 | [], [], xs', bs', _ => by
  rw [List.nil_append, List.nil_append, hitXs]
  cases hitXs xs' bs' <;> simp
 | k :: xs, d :: bs, xs', bs', h => by
  rw [List.cons_append, List.cons_append, hitXs, hitXs, hitXs_app xs bs xs' bs' (by simpa using h)]
  cases hitX k d with
  | none => rfl
  | some a =>
   cases hitXs xs bs with
   | none => rfl
   | some b =>
    cases hitXs xs' bs' with
    | none => rfl
    | some e => simp
theorem hitXs_one (k d : Px) : hitXs [k] [d] = hitX k d := by
 rw [hitXs]
 cases hitX k d with
 | none => rfl
 | some a => simp [hitXs]
theorem hitXs_step {ks ds : List Px} (hl : ks.length = ds.length) {j : Nat} (hj : j < ks.length) : hitXs (ks.take (j + 1)) (ds.take (j + 1)) = match hitXs (ks.take j) (ds.take j) with
  | none => none
  | some a => match hitX ks[j] (ds[j]'(by omega)) with
   | none => none
   | some b => some (a ++ b) := by
 rw [List.take_succ_eq_append_getElem hj, List.take_succ_eq_append_getElem (l := ds) (by omega), hitXs_app _ _ _ _ (by simp; omega), hitXs_one]
theorem hitXs_no {ks ds : List Px} (hl : ks.length = ds.length) {j : Nat} (hj : j ≤ ks.length) (h : hitXs (ks.take j) (ds.take j) = none) : hitXs ks ds = none := by
 have := hitXs_app (ks.take j) (ds.take j) (ks.drop j) (ds.drop j) (by simp; omega)
 rw [List.take_append_drop, List.take_append_drop, h] at this
 exact this
theorem pxNs_take (ks : List Px) (j : Nat) (hj : j < ks.length) : pxNs (ks.take j) + pxN ks[j] ≤ pxNs ks := by
 rw [pxNs_sum, pxNs_sum]
 have h2 : ks = ks.take j ++ ks[j] :: ks.drop (j + 1) := by rw [← List.drop_eq_getElem_cons hj, List.take_append_drop]
 have h3 := congrArg (fun l : List Px => (l.map pxN).sum) h2
 simp only [List.map_append, List.map_cons, List.sum_append, List.sum_cons] at h3
 omega
theorem pxN_pos : ∀ q, 1 ≤ pxN q
 | .mk _ _ => by rw [pxN]; omega
theorem pxNs_len : ∀ ks : List Px, ks.length ≤ pxNs ks
 | [] => by simp
 | k :: ks => by
  rw [pxNs, List.length_cons]
  have := pxN_pos k
  have := pxNs_len ks
  omega
theorem hitXs_take_len {ks ds : List Px} {j : Nat} {a : List Px} (h : hitXs (ks.take j) (ds.take j) = some a) : a.length ≤ pxNs (ks.take j) :=
 hitXs_len (fun k _ d l e => hitX_len k d l e) _ _ h
end Go.Proofs.YteeiaaogmjbcjaaGreat
set_option linter.unusedVariables false
namespace Go.Proofs.YteeiaaogmjbcjaaGreat

def kidPos : Nat → List Px → List Int
 | _, [] => []
 | b, t :: ts => (b : Int) :: kidPos (b + pxN t) ts
mutual
def flatX : Nat → Px → List PNode
 | b, .mk h ks => ⟨h.kind, h.n, h.s, kidPos (b + 1) ks⟩ :: flatXs (b + 1) ks
def flatXs : Nat → List Px → List PNode
 | _, [] => []
 | b, t :: ts => flatX b t ++ flatXs (b + pxN t) ts
end
theorem flatXs_len {ks : List Px} (h : ∀ k ∈ ks, ∀ b, (flatX b k).length = pxN k) : ∀ b, (flatXs b ks).length = pxNs ks := by
 induction ks with
 | nil => intro b; rw [flatXs, pxNs]; rfl
 | cons k ks ih =>
  intro b
  rw [flatXs, pxNs, List.length_append, h k (by simp), ih (fun k hk => h k (by simp [hk]))]
theorem flatX_len : ∀ t b, (flatX b t).length = pxN t := Px.ind fun n ks ih b => by
 rw [flatX, pxN, List.length_cons, flatXs_len ih]; omega
theorem flatXs_len' (b : Nat) (ks : List Px) : (flatXs b ks).length = pxNs ks := flatXs_len (fun k _ b => flatX_len k b) b
theorem flatXs_snoc : ∀ (b : Nat) (ks : List Px) (k : Px), flatXs b (ks ++ [k]) = flatXs b ks ++ flatX (b + pxNs ks) k
 | b, [], k => by simp [flatXs, pxNs]
 | b, t :: ts, k => by
  rw [List.cons_append, flatXs, flatXs, pxNs, flatXs_snoc, List.append_assoc, Nat.add_assoc]
theorem kidPos_snoc : ∀ (b : Nat) (ks : List Px) (k : Px), kidPos b (ks ++ [k]) = kidPos b ks ++ [((b + pxNs ks : Nat) : Int)]
 | b, [], k => by simp [kidPos, pxNs]
 | b, t :: ts, k => by
  rw [List.cons_append, kidPos, kidPos, pxNs, kidPos_snoc, List.cons_append, Nat.add_assoc]
theorem kidPos_len : ∀ (b : Nat) (ks : List Px), (kidPos b ks).length = ks.length
 | b, [] => rfl
 | b, t :: ts => by rw [kidPos, List.length_cons, List.length_cons, kidPos_len]
theorem pxNs_app (ks : List Px) (k : Px) : pxNs (ks ++ [k]) = pxNs ks + pxN k := by
 rw [pxNs_sum, pxNs_sum, List.map_append, List.sum_append]; simp
end Go.Proofs.YteeiaaogmjbcjaaGreat
set_option linter.unusedVariables false
set_option linter.unusedSimpArgs false
set_option linter.unusedVariables false
set_option linter.unusedSimpArgs false
set_option maxRecDepth 100000
namespace Go.Proofs.YteeiaaogmjbcjaaGreat
open Go.RowKit Go.Proofs.YteeiaaogmjbcjaaGreat.Av Go.Proofs.YteeiaaogmjbcjaaGreat.Ml
open Go.Proofs.YteeiaaogmjbcjaaGreat.Av.AVal (av)

theorem wrapN_id (n : Int) (h : -9223372036854775808 ≤ n ∧ n ≤ 9223372036854775807) : (IntKind.i64.wrap (n * 2) / 2 = n) ↔ (-4611686018427387904 ≤ n ∧ n ≤ 4611686018427387903) := by
 rw [IntKind.wrap_i64]
 omega
theorem wrapN_ok (n : Int) (h : -9223372036854775808 ≤ n ∧ n ≤ 9223372036854775807) : ∃ m, CallsF Tryz.prog 66 [.int .i64 n] (.int .i64 m) ∧ (m = n ↔ (-4611686018427387904 ≤ n ∧ n ≤ 4611686018427387903)) := by
 refine ⟨IntKind.i64.wrap (n * 2) / 2, ?_, wrapN_id n h⟩
 refine ir_spec_Wrap.F rfl (by simp; exact pint _) (pint _) ?_
 have e0 : IntKind.i64.bits = 64 := rfl
 have e1 : min 1 IntKind.i64.bits = 1 := rfl
 have e2 : ∀ x : Int, x.fdiv (2 ^ 1) = x / 2 := fun x => by rw [Int.fdiv_eq_ediv_of_nonneg _ (by decide)]; rfl
 have e3 : n * 2 ^ 1 = n * 2 := rfl
 have e4 : ∀ x : Int, x.fdiv 2 = x / 2 := fun x => Int.fdiv_eq_ediv_of_nonneg _ (by decide)
 simp +contextual -dsimp (maxSteps := 2000000) only [↓SD, SU, SB, simprocAttr, ir_spec_Wrap, e1, e2, e3, e4]
 rw [IntKind.wrap_i64]
 omega
end Go.Proofs.YteeiaaogmjbcjaaGreat
