/-
 THE PART OF A VALUE AT A PLACE: its nodes are those of the tree there. Conditions: none.
-/
import Derived.Test.YteeiaaogmjbcjaaGreatHJ43
import Derived.Test.YteeiaaogmjbcjaaGreatHHitI
import Derived.Test.YteeiaaogmjbcjaaGreatHPatOk
import Derived.Test.YteeiaaogmjbcjaaGreatProg
import Derived.Test.YteeiaaogmjbcjaaGreatHAvDraw
import Derived.Test.YteeiaaogmjbcjaaGreatHJ07
import Derived.Test.YteeiaaogmjbcjaaGreatHJ24
set_option linter.unusedVariables false
namespace Go.Proofs.YteeiaaogmjbcjaaGreat
open Go.RowKit Go.Proofs.YteeiaaogmjbcjaaGreat.Av Go.Proofs.YteeiaaogmjbcjaaGreat.Ml
open Go.Proofs.YteeiaaogmjbcjaaGreat.Av.AVal (av)

def shN (s : Int) (n : DNode) : PNode := ⟨n.kind, n.n, n.s, n.kids.map (· + s)⟩
theorem seg_split (l : List DNode) {a b c : Nat} (h1 : a ≤ b) (h2 : b ≤ c) : (l.drop a).take (c - a) = (l.drop a).take (b - a) ++ (l.drop b).take (c - b) := by
 have e : c - a = (b - a) + (c - b) := by omega
 rw [e, List.take_add, List.drop_drop]
 congr 3
 omega
theorem kids_flat {l : List DNode} {n f : Nat} (ih : ∀ (a m b : Nat) (s : Int), endF (dkids l) n f a = some m → (b : Int) - a = s → flatX b (growX (dhd l) (dkids l) f a) = ((l.drop a).take (m - a)).map (shN s)) :
  ∀ (ks : List Int) (nx m b : Nat) (s : Int), nx ≤ n → kidsF (endF (dkids l) n f) ks nx = some m → (b : Int) - nx = s →
   flatXs b (ks.map fun k => growX (dhd l) (dkids l) f k.toNat) = ((l.drop nx).take (m - nx)).map (shN s) ∧ kidPos b (ks.map fun k => growX (dhd l) (dkids l) f k.toNat) = ks.map (· + s)
 | [], nx, m, b, s, hn, h, hs => by
  rw [kidsF] at h; cases h
  rw [List.map_nil, flatXs, kidPos]; simp
 | k :: ks, nx, m, b, s, hn, h, hs => by
  rw [kidsF] at h
  split at h
  ·rename_i hk
   cases he : endF (dkids l) n f nx with
   | none => rw [he] at h; cases h
   | some m1 =>
    rw [he] at h
    simp only at h
    have h1 := end_le (dkids l) n f nx m1 he
    have h2 := kids_le (end_le (dkids l) n f) h h1.2
    have hz := grow_size (H := dhd l) f nx m1 he
    have hk2 : k.toNat = nx := by omega
    rw [List.map_cons, flatXs, kidPos, hk2]
    generalize hT : growX (dhd l) (dkids l) f nx = T at *
    have e1 := ih nx m1 b s he hs
    rw [hT] at e1
    obtain ⟨e2, e3⟩ := kids_flat ih ks m1 m (b + pxN T) s h1.2 h (by omega)
    rw [e1, e2, e3, seg_split l (show nx ≤ m1 by omega) h2.1, List.map_append]
    refine ⟨rfl, ?_⟩
    rw [List.map_cons]
    congr 1
    omega
  ·cases h
theorem flat_seg {l : List DNode} {n : Nat} (hn : n = l.length) : ∀ (f a m b : Nat) (s : Int), endF (dkids l) n f a = some m → (b : Int) - a = s → flatX b (growX (dhd l) (dkids l) f a) = ((l.drop a).take (m - a)).map (shN s)
 | 0, a, m, b, s, h, _ => by rw [endF] at h; cases h
 | f + 1, a, m, b, s, h, hs => by
  have hm := end_le (dkids l) n (f + 1) a m h
  rw [endF] at h
  split at h
  ·rename_i hl
   obtain ⟨e1, e2⟩ := kids_flat (fun a m b s => flat_seg hn f a m b s) (dkids l a) (a + 1) m (b + 1) s (by omega) h (by omega)
   have hal : a < l.length := by omega
   rw [growX, flatX, e1, e2]
   have ed : l.drop a = l[a] :: l.drop (a + 1) := List.drop_eq_getElem_cons hal
   have hk : dkids l a = l[a].kids := by rw [dkids, getD_at hal]
   have hh : dhd l a = ⟨l[a].kind, l[a].n, l[a].s⟩ := by rw [dhd, getD_at hal]
   obtain ⟨c, hc⟩ : ∃ c, m - a = c + 1 := ⟨m - a - 1, by omega⟩
   have hc2 : m - (a + 1) = c := by omega
   rw [ed, hc, hc2, List.take_succ_cons, List.map_cons, hk, hh]
   rfl
  ·cases h
end Go.Proofs.YteeiaaogmjbcjaaGreat
set_option linter.unusedVariables false
set_option linter.unusedSimpArgs false
namespace Go.Proofs.YteeiaaogmjbcjaaGreat
open Go.RowKit Go.Proofs.YteeiaaogmjbcjaaGreat.Av Go.Proofs.YteeiaaogmjbcjaaGreat.Ml
open Go.Proofs.YteeiaaogmjbcjaaGreat.Av.AVal (av)

mutual
def pxV : Px → Nat
 | .mk n ks => (if n.kind = 2 then 1 else 0) + pxVs ks
def pxVs : List Px → Nat
 | [] => 0
 | k :: ks => pxV k + pxVs ks
end
inductive PLf : Px → Prop
 | mk (n : Hd) (ks : List Px) (h1 : n.kind = 1 ∨ n.kind = 2 → ks = []) (h2 : ∀ k ∈ ks, PLf k) : PLf (.mk n ks)
theorem hitXs_names {ks : List Px} (ih : ∀ k ∈ ks, ∀ d l, hitX k d = some l → l.length = pxV k) : ∀ ds l, ks.length = ds.length → hitXs ks ds = some l → l.length = pxVs ks := by
 induction ks with
 | nil => intro ds l _ e; rw [hitXs] at e; cases e; rfl
 | cons k ks ihk =>
  intro ds l hl e
  cases ds with
  | nil => cases hl
  | cons d ds =>
   rw [hitXs] at e
   cases h1 : hitX k d with
   | none => rw [h1] at e; cases e
   | some a =>
    rw [h1] at e
    cases h2 : hitXs ks ds with
    | none => rw [h2] at e; cases e
    | some b =>
     rw [h2] at e
     cases e
     rw [List.length_append, ih k (by simp) d a h1, ihk (fun k hk => ih k (by simp [hk])) ds b (by simpa using hl) h2, pxVs]
theorem hitX_names : ∀ q, PLf q → ∀ d l, hitX q d = some l → l.length = pxV q := Px.ind fun n ks ih hq d l e => by
 obtain ⟨_, _, h1, h2⟩ := hq
 rw [hitX] at e
 split at e
 ·rename_i k1
  cases e
  rw [h1 (.inl k1), pxV, pxVs, k1]; rfl
 ·split at e
  ·rename_i k2
   cases e
   rw [h1 (.inr k2), pxV, pxVs, k2]; rfl
  ·rename_i k2
   split at e
   ·rename_i c
    rw [pxV, if_neg k2, hitXs_names (fun k hk => ih k hk (h2 k hk)) _ _ c.2.2.2 e]; omega
   ·cases e
theorem flat_names : ∀ t b, ((flatX b t).filter fun p => p.kind = 2).length = pxV t := Px.ind fun n ks ih b => by
 have key : ∀ (l : List Px), (∀ k ∈ l, ∀ b, ((flatX b k).filter fun p => p.kind = 2).length = pxV k) → ∀ b, ((flatXs b l).filter fun p => p.kind = 2).length = pxVs l := by
  intro l
  induction l with
  | nil => intro _ b; rfl
  | cons k l ihl =>
   intro h b
   rw [flatXs, List.filter_append, List.length_append, h k (by simp), ihl (fun k hk => h k (by simp [hk])), pxVs]
 rw [flatX, List.filter_cons]
 have e := key ks ih (b + 1)
 rw [pxV, ← e]
 by_cases h : n.kind = 2
 ·simp [h]; omega
 ·simp [h]
def wideN (x : PNode) : PNode := if x.kind = 2 then ⟨1, 0, bs [], []⟩ else x
def wideH (h : Hd) : Hd := if h.kind = 2 then ⟨1, 0, bs []⟩ else h
mutual
def wideX : Px → Px
 | .mk n ks => .mk (wideH n) (wideXs ks)
def wideXs : List Px → List Px
 | [] => []
 | k :: ks => wideX k :: wideXs ks
end
theorem wideXs_map : ∀ ks, wideXs ks = ks.map wideX
 | [] => by rw [wideXs]; rfl
 | k :: ks => by rw [wideXs, wideXs_map ks]; rfl
theorem hitXs_wide {ks : List Px} (ih : ∀ k ∈ ks, ∀ d, (hitX (wideX k) d).isSome = (hitX k d).isSome) : ∀ ds, (hitXs (ks.map wideX) ds).isSome = (hitXs ks ds).isSome := by
 induction ks with
 | nil => intro ds; rfl
 | cons k ks ihk =>
  intro ds
  cases ds with
  | nil => rfl
  | cons d ds =>
   rw [List.map_cons, hitXs, hitXs]
   have h1 := ih k (by simp) d
   have h2 := ihk (fun k hk => ih k (by simp [hk])) ds
   cases a1 : hitX (wideX k) d <;> cases a2 : hitX k d <;> rw [a1, a2] at h1 <;> first | (cases h1; done) | skip
   dsimp only
   cases b1 : hitXs (ks.map wideX) ds <;> cases b2 : hitXs ks ds <;> rw [b1, b2] at h2 <;> first | rfl | cases h2
theorem hitX_wide : ∀ q d, (hitX (wideX q) d).isSome = (hitX q d).isSome := Px.ind fun n ks ih d => by
 rw [wideX, wideXs_map, hitX, hitX]
 unfold wideH
 by_cases h2 : n.kind = 2
 ·rw [if_pos h2]
  simp [h2]
 ·rw [if_neg h2]
  by_cases h1 : n.kind = 1
  ·simp [h1]
  ·rw [if_neg h1, if_neg h1, if_neg h2, if_neg h2, List.length_map]
   split
   ·exact hitXs_wide ih _
   ·rfl
theorem growX_wide (H : Nat → Hd) (K : Nat → List Int) : ∀ f i, growX (fun i => wideH (H i)) K f i = wideX (growX H K f i)
 | 0, i => by rw [growX, growX, wideX, wideXs]
 | f + 1, i => by
  rw [growX, growX, wideX, wideXs_map, List.map_map]
  congr 1
  exact List.map_congr_left fun k _ => growX_wide H K f k.toNat
theorem wideN_kind (x : PNode) (k : Int) (hk : k ≠ 1) (hk2 : k ≠ 2) : ((wideN x).kind = k) = (x.kind = k) := by
 unfold wideN
 split
 ·rename_i h; rw [h]; simp [Ne.symm hk, Ne.symm hk2]
 ·rfl
theorem getD_wide (q : List PNode) (i : Nat) : (q.map wideN).getD i default = wideN (q.getD i default) := by
 rw [List.getD_eq_getElem?_getD, List.getD_eq_getElem?_getD, List.getElem?_map]
 cases q[i]? <;> rfl
theorem pnodeB_leaf {l : List PNode} {n : PNode} (h : pnodeB l n = true) (hk : n.kind = 1 ∨ n.kind = 2) : n.kids = [] := by
 unfold pnodeB at h
 rcases hk with hk | hk
 ·simp [hk] at h; exact h.1.1
 ·simp [hk] at h; exact h.1.1
theorem patB_node {q : List PNode} (h : patB q = true) (i : Nat) (hi : i < q.length) : pnodeB q (q.getD i default) = true := by
 have h1 := (patB_at h).2.2 i hi
 unfold patIB at h1
 rw [Bool.and_eq_true] at h1
 exact h1.1
theorem pkids_wide {q : List PNode} (h : patB q = true) (i : Nat) : pkids (q.map wideN) i = pkids q i := by
 unfold pkids
 rw [getD_wide]
 unfold wideN
 split
 ·rename_i h2
  by_cases hi : i < q.length
  ·exact (pnodeB_leaf (patB_node h i hi) (.inr h2)).symm
  ·rw [List.getD_eq_getElem?_getD, List.getElem?_eq_none (by omega)] at h2
   exact absurd h2 (by decide)
 ·rfl
theorem phd_wide (q : List PNode) (i : Nat) : phd (q.map wideN) i = wideH (phd q i) := by
 unfold phd
 rw [getD_wide]
 unfold wideN wideH
 dsimp only
 split <;> rfl
theorem ptree_wide {q : List PNode} (h : patB q = true) (i : Nat) : ptree (q.map wideN) i = wideX (ptree q i) := by
 unfold ptree
 rw [show phd (q.map wideN) = fun i => wideH (phd q i) from funext (phd_wide q), show pkids (q.map wideN) = pkids q from funext (pkids_wide h), List.length_map]
 exact growX_wide _ _ _ _
theorem patB_wide {q : List PNode} (h : patB q = true) : patB (q.map wideN) = true := by
 obtain ⟨⟨h1, h2⟩, h3, h4⟩ := patB_at h
 refine patB_of (by rw [List.length_map]; exact h1) (by rw [List.length_map]; exact h2) (by rw [List.length_map, show pkids (q.map wideN) = pkids q from funext (pkids_wide h)]; exact h3) fun k hk => ?_
 rw [List.length_map] at hk
 have hb := patB_node h k hk
 unfold patIB
 rw [getD_wide]
 generalize q.getD k default = x at *
 have hne : ¬ (wideN x).kind = 2 := by
  unfold wideN
  split
  ·decide
  ·assumption
 rw [Bool.and_eq_true]
 refine ⟨?_, by simp [hne]⟩
 by_cases h2 : x.kind = 2
 ·rw [show wideN x = ⟨1, 0, bs [], []⟩ from if_pos h2]
  unfold pnodeB; simp
 ·rw [show wideN x = x from if_neg h2]
  unfold pnodeB at hb ⊢
  rw [if_neg h2] at hb ⊢
  have ho : onlyKind PNode.kind (q.map wideN) x.kids 5 = onlyKind PNode.kind q x.kids 5 := by
   unfold onlyKind
   split
   ·rename_i j _
    rw [getD_wide, List.length_map]
    have e : (decide ((wideN (q.getD j.toNat default)).kind = 5)) = decide ((q.getD j.toNat default).kind = 5) := by
     simp only [wideN_kind _ 5 (by decide) (by decide)]
    rw [e]
   ·rfl
  rw [ho]
  exact hb
theorem hitB_wide {q : List PNode} (d : List DNode) (h : patB q = true) : hitB (q.map wideN) d = hitB q d := by
 unfold hitB hitO
 rw [patB_wide h, h, ptree_wide h]
 split
 ·rw [Option.isSome_map, Option.isSome_map]; exact hitX_wide _ _
 ·rfl
theorem flat_ptree {q : List PNode} (h0 : 1 ≤ q.length) (h : treeB (pkids q) q.length = true) : flatX 0 (ptree q 0) = q := by
 obtain ⟨D, hD⟩ : ∃ D : List DNode, D = q.map fun p => (⟨p.kind, p.n, p.s, p.kids⟩ : DNode) := ⟨_, rfl⟩
 have hg : ∀ i, D.getD i default = (fun p : PNode => (⟨p.kind, p.n, p.s, p.kids⟩ : DNode)) (q.getD i default) := fun i => by
  rw [hD, List.getD_eq_getElem?_getD, List.getD_eq_getElem?_getD, List.getElem?_map]
  cases q[i]? <;> rfl
 have hk : dkids D = pkids q := funext fun i => by unfold dkids pkids; rw [hg]
 have hh : dhd D = phd q := funext fun i => by unfold dhd phd; rw [hg]
 have hl : q.length = D.length := by rw [hD, List.length_map]
 have h1 := flat_seg (l := D) hl (q.length + 1) 0 q.length 0 0 (by rw [hk]; exact of_decide_eq_true h) rfl
 rw [hh, hk, List.drop_zero, Nat.sub_zero, hl, List.take_length, hD, List.map_map, List.length_map] at h1
 unfold ptree
 rw [growX_any (fun i hi k hk => tree_in h hi hk) q.length (q.length + 1) 0 (by omega) (by omega) (by omega), h1]
 refine (List.map_congr_left fun p _ => ?_).trans (List.map_id _)
 show (⟨p.kind, p.n, p.s, p.kids.map (· + 0)⟩ : PNode) = p
 simp
theorem growX_leaf {q : List PNode} (h : patB q = true) : ∀ f i, i < q.length → q.length - i ≤ f → PLf (growX (phd q) (pkids q) f i)
 | 0, i, hi, hf => by omega
 | f + 1, i, hi, hf => by
  rw [growX]
  refine .mk _ _ (fun hk => ?_) fun k hk => ?_
  ·have := pnodeB_leaf (patB_node h i hi) hk
   rw [show pkids q i = [] from this]; rfl
  ·obtain ⟨j, hj, rfl⟩ := List.mem_map.1 hk
   have := tree_in (patB_at h).2.1 hi hj
   exact growX_leaf h f j.toNat (by omega) (by omega)
theorem hit_names {q : List PNode} {d : List DNode} {l : List Data} (h : hitO q d = some l) : l.length = (q.filter fun p => p.kind = 2).length := by
 unfold hitO at h
 split at h
 ·rename_i hc
  have hp := patB_at hc.1
  cases hx : hitX (ptree q 0) (dtree d 0) with
  | none => rw [hx] at h; cases h
  | some a =>
   rw [hx] at h
   cases h
   have h1 := hitX_names _ (growX_leaf hc.1 q.length 0 (by omega) (by omega)) _ _ hx
   have h2 := flat_names (ptree q 0) 0
   rw [flat_ptree hp.1.1 hp.2.1] at h2
   rw [List.length_map, h1]
   exact h2.symm
 ·cases h
end Go.Proofs.YteeiaaogmjbcjaaGreat
set_option linter.unusedVariables false
set_option maxRecDepth 100000
set_option linter.unusedVariables false
set_option linter.unusedSimpArgs false
set_option maxRecDepth 100000
set_option linter.unusedVariables false
set_option linter.unusedSimpArgs false
set_option maxRecDepth 100000
set_option linter.unusedVariables false
set_option maxRecDepth 100000
namespace Go.Proofs.YteeiaaogmjbcjaaGreat
open Go.Proofs.YteeiaaogmjbcjaaGreat.Av

theorem follows_HitS : Tryz.prog.follows .mixedOrders = true := by kernel_rfl

def ir_spec_l07Part : Ir Tryz.prog 69 [] [12] 2 := ⟨_, _, Tryz.func69, follows_HitS, by kernel_rfl, low_of [] Tryz.progTables (by conv => lhs; cbv) (by kernel_rfl)⟩
def ir_spec_l07Hit : Ir Tryz.prog 35 [] [] 4 := ⟨_, _, Tryz.func35, follows_HitS, by kernel_rfl, low_of [] Tryz.progTables (by conv => lhs; cbv) (by kernel_rfl)⟩
def ir_spec_Hit : Ir Tryz.prog 8 [] [] 2 := ⟨_, _, Tryz.func8, follows_HitS, by kernel_rfl, low_of [] Tryz.progTables (by conv => lhs; cbv) (by kernel_rfl)⟩
end Go.Proofs.YteeiaaogmjbcjaaGreat
