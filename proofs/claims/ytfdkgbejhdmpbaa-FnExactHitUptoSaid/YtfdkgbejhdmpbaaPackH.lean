/-
  THE GROUND OF DATA, in one text. Conditions: none.
-/
import Derived.Test.YtfdkgbejhdmpbaaPxP
import Derived.Test.YtfdkgbejhdmpbaaDataS
import Derived.Test.YtfdkgbejhdmpbaaIrHit
import Derived.Test.YtfdkgbejhdmpbaaIrHit2

set_option linter.unusedVariables false
namespace Go.Proofs.Ytfdkgbejhdmpbaa
open Go.RowKit Go.Proofs.Ytfdkgbejhdmpbaa.Av Go.Proofs.Ytfdkgbejhdmpbaa.Ml
open Go.Proofs.Ytfdkgbejhdmpbaa.Av.AVal (av)

mutual
def hitX : Px → Px → Option (List Px)
  | .mk n ks, d => if n.kind = 1 then some [] else if n.kind = 2 then some [d] else if n.kind = d.hd.kind ∧ n.n = d.hd.n ∧ n.s = d.hd.s ∧ ks.length = d.kids.length then hitXs ks d.kids else none
def hitXs : List Px → List Px → Option (List Px)
  | [], _ => some []
  | _ :: _, [] => none
  | k :: ks, d :: ds => match hitX k d with
    | none => none
    | some a => match hitXs ks ds with
      | none => none
      | some b => some (a ++ b)
end
mutual
def pxN : Px → Nat
  | .mk _ ks => 1 + pxNs ks
def pxNs : List Px → Nat
  | [] => 0
  | t :: ts => pxN t + pxNs ts
end
theorem pxNs_sum (ks : List Px) : pxNs ks = (ks.map pxN).sum := by
  induction ks with
  | nil => rw [pxNs]; rfl
  | cons t ts ih => rw [pxNs, ih]; rfl
theorem hitXs_len {ks : List Px} (h : ∀ k ∈ ks, ∀ d l, hitX k d = some l → l.length ≤ pxN k) : ∀ ds l, hitXs ks ds = some l → l.length ≤ pxNs ks := by
  induction ks with
  | nil => intro ds l e; rw [hitXs] at e; cases e; simp
  | cons k ks ih =>
    intro ds l e
    cases ds with
    | nil => rw [hitXs] at e; cases e
    | cons d ds =>
      rw [hitXs] at e
      cases h1 : hitX k d with
      | none => rw [h1] at e; cases e
      | some a =>
        rw [h1] at e
        simp only at e
        cases h2 : hitXs ks ds with
        | none => rw [h2] at e; cases e
        | some b =>
          rw [h2] at e
          cases e
          have := h k (by simp) d a h1
          have := ih (fun k hk => h k (by simp [hk])) ds b h2
          rw [pxNs, List.length_append]; omega
theorem hitX_len : ∀ q d l, hitX q d = some l → l.length ≤ pxN q := Px.ind fun n ks ih d l e => by
  rw [hitX] at e
  rw [pxN]
  split at e
  · cases e; simp
  · split at e
    · cases e; simp
    · split at e
      · have := hitXs_len ih _ _ e; omega
      · cases e
theorem hitXs_app : ∀ (xs bs xs' bs' : List Px), xs.length = bs.length → hitXs (xs ++ xs') (bs ++ bs') = match hitXs xs bs with
    | none => none
    | some a => match hitXs xs' bs' with
      | none => none
      | some b => some (a ++ b)
  | [], [], xs', bs', _ => by
    rw [List.nil_append, List.nil_append, hitXs]
    cases hitXs xs' bs' <;> simp
  | k :: xs, d :: bs, xs', bs', h => by
    rw [List.cons_append, List.cons_append, hitXs, hitXs, hitXs_app xs bs xs' bs' (by simpa using h)]
    cases hitX k d with
    | none => rfl
    | some a =>
      cases hitXs xs bs with
      | none => rfl
      | some b =>
        cases hitXs xs' bs' with
        | none => rfl
        | some e => simp
theorem hitXs_one (k d : Px) : hitXs [k] [d] = hitX k d := by
  rw [hitXs]
  cases hitX k d with
  | none => rfl
  | some a => simp [hitXs]
theorem hitXs_step {ks ds : List Px} (hl : ks.length = ds.length) {j : Nat} (hj : j < ks.length) : hitXs (ks.take (j + 1)) (ds.take (j + 1)) = match hitXs (ks.take j) (ds.take j) with
    | none => none
    | some a => match hitX ks[j] (ds[j]'(by omega)) with
      | none => none
      | some b => some (a ++ b) := by
  rw [List.take_succ_eq_append_getElem hj, List.take_succ_eq_append_getElem (l := ds) (by omega), hitXs_app _ _ _ _ (by simp; omega), hitXs_one]
theorem hitXs_no {ks ds : List Px} (hl : ks.length = ds.length) {j : Nat} (hj : j ≤ ks.length) (h : hitXs (ks.take j) (ds.take j) = none) : hitXs ks ds = none := by
  have := hitXs_app (ks.take j) (ds.take j) (ks.drop j) (ds.drop j) (by simp; omega)
  rw [List.take_append_drop, List.take_append_drop, h] at this
  exact this
theorem pxNs_take (ks : List Px) (j : Nat) (hj : j < ks.length) : pxNs (ks.take j) + pxN ks[j] ≤ pxNs ks := by
  rw [pxNs_sum, pxNs_sum]
  have h2 : ks = ks.take j ++ ks[j] :: ks.drop (j + 1) := by rw [← List.drop_eq_getElem_cons hj, List.take_append_drop]
  have h3 := congrArg (fun l : List Px => (l.map pxN).sum) h2
  simp only [List.map_append, List.map_cons, List.sum_append, List.sum_cons] at h3
  omega
theorem pxN_pos : ∀ q, 1 ≤ pxN q
  | .mk _ _ => by rw [pxN]; omega
theorem pxNs_len : ∀ ks : List Px, ks.length ≤ pxNs ks
  | [] => by simp
  | k :: ks => by
    rw [pxNs, List.length_cons]
    have := pxN_pos k
    have := pxNs_len ks
    omega
theorem hitXs_take_len {ks ds : List Px} {j : Nat} {a : List Px} (h : hitXs (ks.take j) (ds.take j) = some a) : a.length ≤ pxNs (ks.take j) :=
  hitXs_len (fun k _ d l e => hitX_len k d l e) _ _ h
end Go.Proofs.Ytfdkgbejhdmpbaa


set_option linter.unusedVariables false
set_option linter.unusedSimpArgs false
set_option maxRecDepth 100000
namespace Go.Proofs.Ytfdkgbejhdmpbaa
open Go.RowKit Go.Proofs.Ytfdkgbejhdmpbaa.Av Go.Proofs.Ytfdkgbejhdmpbaa.Ml
open Go.Proofs.Ytfdkgbejhdmpbaa.Av.AVal (av)

theorem growDataH_ok (l : List DNode) (hk : ∀ i, i < l.length → ∀ k ∈ dkids l i, (i : Int) < k ∧ k < l.length) (hx : Bulk.bulk l ≤ 1048576) : ∀ (f i : Nat), i < l.length → l.length - i ≤ f → CallsF Try.prog 37 [.sl (l.map av), .int .i64 i] (av (growX (dhd l) (dkids l) f i)) := by
  intro f
  induction f with
  | zero => intro i hi hf; omega
  | succ f ih =>
    intro i hi hf
    have hl := bulk_length l
    have e := getD_map av l i .top hi
    have hs := (dnode_small hx i hi).1
    have hK : dkids l i = l[i].kids := by rw [dkids, getD_at hi]
    have hH : dhd l i = ⟨l[i].kind, l[i].n, l[i].s⟩ := by rw [dhd, getD_at hi]
    have hg : growX (dhd l) (dkids l) (f + 1) i = .mk ⟨l[i].kind, l[i].n, l[i].s⟩ (l[i].kids.map fun k => growX (dhd l) (dkids l) f k.toNat) := by rw [growX, hK, hH]
    have hks := hk i hi
    rw [hK] at hks
    refine fun_impl_growData rfl (by simp; exact ⟨lav_clean l, pint _⟩) (AVal.clean _) ?_
    rw [hg]
    clear hg hK hH
    generalize l[i] = n at *
    simp +contextual -dsimp (maxSteps := 2000000) only [↓SD, SU, SB, Nat.reduceAdd, Nat.reduceBEq, Nat.reduceEqDiff, Nat.reduceLeDiff, Nat.reduceLT, Nat.reduceSub, ↓reduceIte, zA, zI, zN, reduceCtorEq, Int.reduceToNat, zE, ir_impl_growData, rs_impl_growData, map_len, hi, e, av_DNode]
    intro w5 w
    refine aLoop_goes (X := Nat × Nat) (fun x => ⟨[(0, .sl (l.map av)), (6, .ptr 20 w 0 0), (22, .sl (n.kids.map av)), (23, .int .i64 n.kids.length), (24, .int .i64 x.1)], [(20, ⟨w, false, 98, 4, [.agg [.int .i64 n.kind, .int .i64 n.n, .str n.s, .row 37 x.2 x.1]]⟩), (37, ⟨x.2, false, 67, 1, ((n.kids.take x.1).map fun k => growX (dhd l) (dkids l) f k.toNat).map av⟩)]⟩) (fun x => x.1 ≤ n.kids.length) (fun x => n.kids.length - x.1) (Goes.adoptB 20 0 3 37 67 1 rfl rfl Nat.zero_lt_one rfl (by decide) (fun v => Goes.le ⟨(0, v), Nat.zero_le _, rfl⟩ (by simp +contextual -dsimp only [↓SD, SU, SB, Nat.reduceAdd, Nat.reduceBEq, Nat.reduceEqDiff, Nat.reduceLeDiff, Nat.reduceLT, Nat.reduceSub, ↓reduceIte, zA, zI, zN, reduceCtorEq, Int.reduceToNat, zE]) (by simp +contextual -dsimp only [↓SD, SU, SB, Nat.reduceAdd, Nat.reduceBEq, Nat.reduceEqDiff, Nat.reduceLeDiff, Nat.reduceLT, Nat.reduceSub, ↓reduceIte, zA, zI, zN, reduceCtorEq, Int.reduceToNat, zE]))) ?_
    rintro ⟨j, u⟩ hj
    simp only at hj
    by_cases hlt : j < n.kids.length
    · have e2 := getD_map av n.kids j .top hlt
      have hkj := hks _ (List.getElem_mem hlt)
      have ht : n.kids.take (j + 1) = n.kids.take j ++ [n.kids[j]] := List.take_succ_eq_append_getElem hlt
      obtain ⟨m, hm⟩ : ∃ m : Nat, n.kids[j] = m := ⟨n.kids[j].toNat, by omega⟩
      rw [hm] at e2 hkj ht
      have C2 := ih m (by omega) (by omega)
      have hk2 : (n.kids.take j).length = j := by simp; omega
      have ht2 : List.take j (((n.kids.take j).map fun k => growX (dhd l) (dkids l) f k.toNat).map av) = ((n.kids.take j).map fun k => growX (dhd l) (dkids l) f k.toNat).map av := List.take_of_length_le (by simp; omega)
      simp +contextual -dsimp (maxSteps := 2000000) only [↓SD, SU, SB, Nat.reduceAdd, Nat.reduceBEq, Nat.reduceEqDiff, Nat.reduceLeDiff, Nat.reduceLT, Nat.reduceSub, ↓reduceIte, zA, zI, zN, reduceCtorEq, Int.reduceToNat, zE, map_len, hlt, e2, av_int]
      refine aCallK_of _ C2 ?_
      simp +contextual -dsimp (maxSteps := 2000000) only [↓SD, SU, SB, Nat.reduceAdd, Nat.reduceBEq, Nat.reduceEqDiff, Nat.reduceLeDiff, Nat.reduceLT, Nat.reduceSub, ↓reduceIte, zA, zI, zN, reduceCtorEq, Int.reduceToNat, zE, map_len, hlt, px_cells, px_pur, px_pur1, px_purA, px_one, px_ok, hk2, ht2]
      refine ⟨⟨by omega, by unfold maxLen; omega⟩, fun u' => ⟨by omega, Goes.le ⟨(j + 1, u'), ⟨hlt, (by first | omega | (simp only; omega))⟩, rfl⟩ (by simp +contextual -dsimp only [↓SD, SU, SB, Nat.reduceAdd, Nat.reduceBEq, Nat.reduceEqDiff, Nat.reduceLeDiff, Nat.reduceLT, Nat.reduceSub, ↓reduceIte, zA, zI, zN, reduceCtorEq, Int.reduceToNat, zE, Int.natCast_add]) (by simp +contextual -dsimp only [↓SD, SU, SB, Nat.reduceAdd, Nat.reduceBEq, Nat.reduceEqDiff, Nat.reduceLeDiff, Nat.reduceLT, Nat.reduceSub, ↓reduceIte, zA, zI, zN, reduceCtorEq, Int.reduceToNat, zE, ht, List.map_append, Int.toNat_natCast])⟩⟩
    · obtain rfl : j = n.kids.length := by omega
      simp +contextual -dsimp (maxSteps := 2000000) only [↓SD, SU, SB, Nat.reduceAdd, Nat.reduceBEq, Nat.reduceEqDiff, Nat.reduceLeDiff, Nat.reduceLT, Nat.reduceSub, ↓reduceIte, zA, zI, zN, reduceCtorEq, Int.reduceToNat, zE, map_len, Nat.lt_irrefl, map_nop, List.take_length, take_map]
      rw [av_Px, List.take_of_length_le (by simp)]

theorem growPatH_ok (l : List PNode) (hk : ∀ i, i < l.length → ∀ k ∈ pkids l i, (i : Int) < k ∧ k < l.length) (hx : Bulk.bulk l ≤ 1048576) : ∀ (f i : Nat), i < l.length → l.length - i ≤ f → CallsF Try.prog 36 [.sl (l.map av), .int .i64 i] (av (growX (phd l) (pkids l) f i)) := by
  intro f
  induction f with
  | zero => intro i hi hf; omega
  | succ f ih =>
    intro i hi hf
    have hl := bulk_length l
    have e := getD_map av l i .top hi
    have hs := (pnode_small hx i hi).1
    have hK : pkids l i = l[i].kids := by rw [pkids, getD_at hi]
    have hH : phd l i = ⟨l[i].kind, l[i].n, l[i].s⟩ := by rw [phd, getD_at hi]
    have hg : growX (phd l) (pkids l) (f + 1) i = .mk ⟨l[i].kind, l[i].n, l[i].s⟩ (l[i].kids.map fun k => growX (phd l) (pkids l) f k.toNat) := by rw [growX, hK, hH]
    have hks := hk i hi
    rw [hK] at hks
    refine fun_impl_growPat rfl (by simp; exact ⟨lav_clean l, pint _⟩) (AVal.clean _) ?_
    rw [hg]
    clear hg hK hH
    generalize l[i] = n at *
    simp +contextual -dsimp (maxSteps := 2000000) only [↓SD, SU, SB, Nat.reduceAdd, Nat.reduceBEq, Nat.reduceEqDiff, Nat.reduceLeDiff, Nat.reduceLT, Nat.reduceSub, ↓reduceIte, zA, zI, zN, reduceCtorEq, Int.reduceToNat, zE, ir_impl_growPat, rs_impl_growPat, map_len, hi, e, av_PNode]
    intro w5 w
    refine aLoop_goes (X := Nat × Nat) (fun x => ⟨[(0, .sl (l.map av)), (6, .ptr 20 w 0 0), (22, .sl (n.kids.map av)), (23, .int .i64 n.kids.length), (24, .int .i64 x.1)], [(20, ⟨w, false, 98, 4, [.agg [.int .i64 n.kind, .int .i64 n.n, .str n.s, .row 37 x.2 x.1]]⟩), (37, ⟨x.2, false, 67, 1, ((n.kids.take x.1).map fun k => growX (phd l) (pkids l) f k.toNat).map av⟩)]⟩) (fun x => x.1 ≤ n.kids.length) (fun x => n.kids.length - x.1) (Goes.adoptB 20 0 3 37 67 1 rfl rfl Nat.zero_lt_one rfl (by decide) (fun v => Goes.le ⟨(0, v), Nat.zero_le _, rfl⟩ (by simp +contextual -dsimp only [↓SD, SU, SB, Nat.reduceAdd, Nat.reduceBEq, Nat.reduceEqDiff, Nat.reduceLeDiff, Nat.reduceLT, Nat.reduceSub, ↓reduceIte, zA, zI, zN, reduceCtorEq, Int.reduceToNat, zE]) (by simp +contextual -dsimp only [↓SD, SU, SB, Nat.reduceAdd, Nat.reduceBEq, Nat.reduceEqDiff, Nat.reduceLeDiff, Nat.reduceLT, Nat.reduceSub, ↓reduceIte, zA, zI, zN, reduceCtorEq, Int.reduceToNat, zE]))) ?_
    rintro ⟨j, u⟩ hj
    simp only at hj
    by_cases hlt : j < n.kids.length
    · have e2 := getD_map av n.kids j .top hlt
      have hkj := hks _ (List.getElem_mem hlt)
      have ht : n.kids.take (j + 1) = n.kids.take j ++ [n.kids[j]] := List.take_succ_eq_append_getElem hlt
      obtain ⟨m, hm⟩ : ∃ m : Nat, n.kids[j] = m := ⟨n.kids[j].toNat, by omega⟩
      rw [hm] at e2 hkj ht
      have C2 := ih m (by omega) (by omega)
      have hk2 : (n.kids.take j).length = j := by simp; omega
      have ht2 : List.take j (((n.kids.take j).map fun k => growX (phd l) (pkids l) f k.toNat).map av) = ((n.kids.take j).map fun k => growX (phd l) (pkids l) f k.toNat).map av := List.take_of_length_le (by simp; omega)
      simp +contextual -dsimp (maxSteps := 2000000) only [↓SD, SU, SB, Nat.reduceAdd, Nat.reduceBEq, Nat.reduceEqDiff, Nat.reduceLeDiff, Nat.reduceLT, Nat.reduceSub, ↓reduceIte, zA, zI, zN, reduceCtorEq, Int.reduceToNat, zE, map_len, hlt, e2, av_int]
      refine aCallK_of _ C2 ?_
      simp +contextual -dsimp (maxSteps := 2000000) only [↓SD, SU, SB, Nat.reduceAdd, Nat.reduceBEq, Nat.reduceEqDiff, Nat.reduceLeDiff, Nat.reduceLT, Nat.reduceSub, ↓reduceIte, zA, zI, zN, reduceCtorEq, Int.reduceToNat, zE, map_len, hlt, px_cells, px_pur, px_pur1, px_purA, px_one, px_ok, hk2, ht2]
      refine ⟨⟨by omega, by unfold maxLen; omega⟩, fun u' => ⟨by omega, Goes.le ⟨(j + 1, u'), ⟨hlt, (by first | omega | (simp only; omega))⟩, rfl⟩ (by simp +contextual -dsimp only [↓SD, SU, SB, Nat.reduceAdd, Nat.reduceBEq, Nat.reduceEqDiff, Nat.reduceLeDiff, Nat.reduceLT, Nat.reduceSub, ↓reduceIte, zA, zI, zN, reduceCtorEq, Int.reduceToNat, zE, Int.natCast_add]) (by simp +contextual -dsimp only [↓SD, SU, SB, Nat.reduceAdd, Nat.reduceBEq, Nat.reduceEqDiff, Nat.reduceLeDiff, Nat.reduceLT, Nat.reduceSub, ↓reduceIte, zA, zI, zN, reduceCtorEq, Int.reduceToNat, zE, ht, List.map_append, Int.toNat_natCast])⟩⟩
    · obtain rfl : j = n.kids.length := by omega
      simp +contextual -dsimp (maxSteps := 2000000) only [↓SD, SU, SB, Nat.reduceAdd, Nat.reduceBEq, Nat.reduceEqDiff, Nat.reduceLeDiff, Nat.reduceLT, Nat.reduceSub, ↓reduceIte, zA, zI, zN, reduceCtorEq, Int.reduceToNat, zE, map_len, Nat.lt_irrefl, map_nop, List.take_length, take_map]
      rw [av_Px, List.take_of_length_le (by simp)]

/-- a list of trees: nil, or a row of its own -/
def lrow (l : List Px) (x : AV) (hp : Hp) : Prop := (l = [] ∧ x = .nils ∧ hp = []) ∨ ∃ v, x = .row 24 v l.length ∧ hp = [(24, ⟨v, false, 67, 1, l.map av⟩)]
def HitPost (acc : List Px) (o : Option (List Px)) (r : AV) (hp' : Hp) : Prop := match o with
  | none => r = .tup [.nils, .bool false] ∧ hp' = []
  | some m => ∃ x, lrow (acc ++ m) x hp' ∧ r = .tup [x, .bool true]
structure HtS where
  j : Nat
  a : List Px
  x : AV
  hp : Hp
theorem hit_ok : ∀ (q d : Px) (acc : List Px) (x : AV) (hp : Hp), lrow acc x hp → acc.length + pxN q ≤ 1048576 → CallsH Try.prog 35 [av q, av d, x] hp (HitPost acc (hitX q d)) := by
  refine Px.ind fun n ks ih d acc x hp hx hb => ?_
  have e : hitX (.mk n ks) d = if n.kind = 1 then some [] else if n.kind = 2 then some [d] else if n.kind = d.hd.kind ∧ n.n = d.hd.n ∧ n.s = d.hd.s ∧ ks.length = d.kids.length then hitXs ks d.kids else none := by rw [hitX]
  rw [e]
  have ec : pxN (.mk n ks) = 1 + pxNs ks := by rw [pxN]
  rw [ec] at hb
  refine funH_impl_hit rfl ?_
  by_cases h1 : n.kind = 1
  · rw [if_pos h1]
    rcases hx with ⟨rfl, rfl, rfl⟩ | ⟨v, rfl, rfl⟩
    · simp +contextual -dsimp (maxSteps := 2000000) only [↓SD, SU, SB, Nat.reduceAdd, Nat.reduceBEq, Nat.reduceEqDiff, Nat.reduceLeDiff, Nat.reduceLT, Nat.reduceSub, ↓reduceIte, zA, zI, zN, reduceCtorEq, Int.reduceToNat, zE, Int.reduceEq, Int.reduceLT, Int.reduceLE, Int.reduceNeg, Int.reduceAdd, Int.reduceSub, ir_impl_hit, rs_impl_hit, av_Px, h1]
      refine Goes.post [] ?_
      simp +contextual -dsimp (maxSteps := 2000000) only [↓SD, SU, SB, Nat.reduceAdd, Nat.reduceBEq, Nat.reduceEqDiff, Nat.reduceLeDiff, Nat.reduceLT, Nat.reduceSub, ↓reduceIte, zA, zI, zN, reduceCtorEq, Int.reduceToNat, zE]
      exact ⟨_, .inl ⟨rfl, rfl, rfl⟩, rfl⟩
    · simp +contextual -dsimp (maxSteps := 2000000) only [↓SD, SU, SB, Nat.reduceAdd, Nat.reduceBEq, Nat.reduceEqDiff, Nat.reduceLeDiff, Nat.reduceLT, Nat.reduceSub, ↓reduceIte, zA, zI, zN, reduceCtorEq, Int.reduceToNat, zE, Int.reduceEq, Int.reduceLT, Int.reduceLE, Int.reduceNeg, Int.reduceAdd, Int.reduceSub, ir_impl_hit, rs_impl_hit, av_Px, h1]
      refine Goes.post [(24, ⟨v, false, 67, 1, acc.map av⟩)] ?_
      simp +contextual -dsimp (maxSteps := 2000000) only [↓SD, SU, SB, Nat.reduceAdd, Nat.reduceBEq, Nat.reduceEqDiff, Nat.reduceLeDiff, Nat.reduceLT, Nat.reduceSub, ↓reduceIte, zA, zI, zN, reduceCtorEq, Int.reduceToNat, zE, false_and]
      exact ⟨_, .inr ⟨v, rfl, by rw [List.append_nil]⟩, by rw [List.append_nil]⟩
  rw [if_neg h1]
  by_cases h2 : n.kind = 2
  · rw [if_pos h2]
    rcases hx with ⟨rfl, rfl, rfl⟩ | ⟨v, rfl, rfl⟩
    · simp +contextual -dsimp (maxSteps := 2000000) only [↓SD, SU, SB, Nat.reduceAdd, Nat.reduceBEq, Nat.reduceEqDiff, Nat.reduceLeDiff, Nat.reduceLT, Nat.reduceSub, ↓reduceIte, zA, zI, zN, reduceCtorEq, Int.reduceToNat, zE, Int.reduceEq, Int.reduceLT, Int.reduceLE, Int.reduceNeg, Int.reduceAdd, Int.reduceSub, ir_impl_hit, rs_impl_hit, av_Px, h1, h2, px_cells, px_pur, px_pur1, px_purA, px_one, px_ok]
      refine ⟨⟨by omega, by unfold maxLen; omega⟩, fun v => ?_⟩
      refine Goes.post [(24, ⟨v, false, 67, 1, [av d]⟩)] ?_
      simp +contextual -dsimp (maxSteps := 2000000) only [↓SD, SU, SB, Nat.reduceAdd, Nat.reduceBEq, Nat.reduceEqDiff, Nat.reduceLeDiff, Nat.reduceLT, Nat.reduceSub, ↓reduceIte, zA, zI, zN, reduceCtorEq, Int.reduceToNat, zE, false_and]
      exact ⟨_, .inr ⟨v, rfl, rfl⟩, rfl⟩
    · have t0 : List.take acc.length (acc.map (av : Px → AV)) = acc.map av := List.take_of_length_le (by simp)
      simp +contextual -dsimp (maxSteps := 2000000) only [↓SD, SU, SB, Nat.reduceAdd, Nat.reduceBEq, Nat.reduceEqDiff, Nat.reduceLeDiff, Nat.reduceLT, Nat.reduceSub, ↓reduceIte, zA, zI, zN, reduceCtorEq, Int.reduceToNat, zE, Int.reduceEq, Int.reduceLT, Int.reduceLE, Int.reduceNeg, Int.reduceAdd, Int.reduceSub, ir_impl_hit, rs_impl_hit, av_Px, h1, h2, px_cells, px_pur, px_pur1, px_purA, px_one, px_ok, map_len, t0]
      refine ⟨⟨by omega, by unfold maxLen; omega⟩, fun v' => ?_⟩
      refine Goes.post [(24, ⟨v', false, 67, 1, (acc ++ [d]).map av⟩)] ?_
      simp +contextual -dsimp (maxSteps := 2000000) only [↓SD, SU, SB, Nat.reduceAdd, Nat.reduceBEq, Nat.reduceEqDiff, Nat.reduceLeDiff, Nat.reduceLT, Nat.reduceSub, ↓reduceIte, zA, zI, zN, reduceCtorEq, Int.reduceToNat, zE, false_and, List.map_append]
      exact ⟨_, .inr ⟨v', rfl, by simp⟩, by simp⟩
  rw [if_neg h2]
  have ed := av_px d
  by_cases c1 : d.hd.kind = n.kind
  case neg =>
    have d1 : ¬ (n.kind = d.hd.kind) := fun h => c1 h.symm
    rw [if_neg (fun h => c1 h.1.symm)]
    simp +contextual -dsimp (maxSteps := 2000000) only [↓SD, SU, SB, Nat.reduceAdd, Nat.reduceBEq, Nat.reduceEqDiff, Nat.reduceLeDiff, Nat.reduceLT, Nat.reduceSub, ↓reduceIte, zA, zI, zN, reduceCtorEq, Int.reduceToNat, zE, Int.reduceEq, Int.reduceLT, Int.reduceLE, Int.reduceNeg, Int.reduceAdd, Int.reduceSub, ir_impl_hit, rs_impl_hit, av_Px, ed, h1, h2, c1, d1, map_len]
    refine Goes.post [] ?_
    simp +contextual -dsimp (maxSteps := 2000000) only [↓SD, SU, SB, Nat.reduceAdd, Nat.reduceBEq, Nat.reduceEqDiff, Nat.reduceLeDiff, Nat.reduceLT, Nat.reduceSub, ↓reduceIte, zA, zI, zN, reduceCtorEq, Int.reduceToNat, zE]
    exact ⟨rfl, rfl⟩
  by_cases c2 : d.hd.n = n.n
  case neg =>
    have d2 : ¬ (n.n = d.hd.n) := fun h => c2 h.symm
    rw [if_neg (fun h => c2 h.2.1.symm)]
    simp +contextual -dsimp (maxSteps := 2000000) only [↓SD, SU, SB, Nat.reduceAdd, Nat.reduceBEq, Nat.reduceEqDiff, Nat.reduceLeDiff, Nat.reduceLT, Nat.reduceSub, ↓reduceIte, zA, zI, zN, reduceCtorEq, Int.reduceToNat, zE, Int.reduceEq, Int.reduceLT, Int.reduceLE, Int.reduceNeg, Int.reduceAdd, Int.reduceSub, ir_impl_hit, rs_impl_hit, av_Px, ed, h1, h2, c1, c2, d2, map_len]
    refine Goes.post [] ?_
    simp +contextual -dsimp (maxSteps := 2000000) only [↓SD, SU, SB, Nat.reduceAdd, Nat.reduceBEq, Nat.reduceEqDiff, Nat.reduceLeDiff, Nat.reduceLT, Nat.reduceSub, ↓reduceIte, zA, zI, zN, reduceCtorEq, Int.reduceToNat, zE]
    exact ⟨rfl, rfl⟩
  by_cases c3 : d.hd.s = n.s
  case neg =>
    have d3 : ¬ (n.s = d.hd.s) := fun h => c3 h.symm
    rw [if_neg (fun h => c3 h.2.2.1.symm)]
    simp +contextual -dsimp (maxSteps := 2000000) only [↓SD, SU, SB, Nat.reduceAdd, Nat.reduceBEq, Nat.reduceEqDiff, Nat.reduceLeDiff, Nat.reduceLT, Nat.reduceSub, ↓reduceIte, zA, zI, zN, reduceCtorEq, Int.reduceToNat, zE, Int.reduceEq, Int.reduceLT, Int.reduceLE, Int.reduceNeg, Int.reduceAdd, Int.reduceSub, ir_impl_hit, rs_impl_hit, av_Px, ed, h1, h2, c1, c2, c3, d3, map_len]
    refine Goes.post [] ?_
    simp +contextual -dsimp (maxSteps := 2000000) only [↓SD, SU, SB, Nat.reduceAdd, Nat.reduceBEq, Nat.reduceEqDiff, Nat.reduceLeDiff, Nat.reduceLT, Nat.reduceSub, ↓reduceIte, zA, zI, zN, reduceCtorEq, Int.reduceToNat, zE]
    exact ⟨rfl, rfl⟩
  by_cases c4 : d.kids.length = ks.length
  case neg =>
    have d4 : ¬ (ks.length = d.kids.length) := fun h => c4 h.symm
    rw [if_neg (fun h => c4 h.2.2.2.symm)]
    simp +contextual -dsimp (maxSteps := 2000000) only [↓SD, SU, SB, Nat.reduceAdd, Nat.reduceBEq, Nat.reduceEqDiff, Nat.reduceLeDiff, Nat.reduceLT, Nat.reduceSub, ↓reduceIte, zA, zI, zN, reduceCtorEq, Int.reduceToNat, zE, Int.reduceEq, Int.reduceLT, Int.reduceLE, Int.reduceNeg, Int.reduceAdd, Int.reduceSub, ir_impl_hit, rs_impl_hit, av_Px, ed, h1, h2, c1, c2, c3, c4, d4, map_len]
    refine Goes.post [] ?_
    simp +contextual -dsimp (maxSteps := 2000000) only [↓SD, SU, SB, Nat.reduceAdd, Nat.reduceBEq, Nat.reduceEqDiff, Nat.reduceLeDiff, Nat.reduceLT, Nat.reduceSub, ↓reduceIte, zA, zI, zN, reduceCtorEq, Int.reduceToNat, zE]
    exact ⟨rfl, rfl⟩
  rw [if_pos ⟨c1.symm, c2.symm, c3.symm, c4.symm⟩]
  simp +contextual -dsimp (maxSteps := 2000000) only [↓SD, SU, SB, Nat.reduceAdd, Nat.reduceBEq, Nat.reduceEqDiff, Nat.reduceLeDiff, Nat.reduceLT, Nat.reduceSub, ↓reduceIte, zA, zI, zN, reduceCtorEq, Int.reduceToNat, zE, Int.reduceEq, Int.reduceLT, Int.reduceLE, Int.reduceNeg, Int.reduceAdd, Int.reduceSub, ir_impl_hit, rs_impl_hit, av_Px, ed, h1, h2, c1, c2, c3, c4, map_len]
  refine aLoop_of (X := HtS) (fun q => ⟨[(1, .obj [.int .i64 d.hd.kind, .int .i64 d.hd.n, .str d.hd.s, .sl (d.kids.map av)]), (2, q.x), (72, .sl (ks.map av)), (73, .int .i64 ks.length), (74, .int .i64 q.j)], q.hp⟩) (fun q => q.j ≤ ks.length ∧ hitXs (ks.take q.j) (d.kids.take q.j) = some q.a ∧ lrow (acc ++ q.a) q.x q.hp) (fun q => ks.length - q.j) ⟨0, [], x, hp⟩ ⟨Nat.zero_le _, by rw [List.take_zero, hitXs], by rw [List.append_nil]; exact hx⟩ (by simp +contextual -dsimp only [↓SD, SU, SB, Nat.reduceAdd, Nat.reduceBEq, Nat.reduceEqDiff, Nat.reduceLeDiff, Nat.reduceLT, Nat.reduceSub, ↓reduceIte, zA, zI, zN, reduceCtorEq, Int.reduceToNat, zE, c1, c2, c3]) (by rcases hx with ⟨_, _, rfl⟩ | ⟨v, _, rfl⟩ <;> simp +contextual -dsimp (maxSteps := 2000000) only [↓SD, SU, SB, Nat.reduceAdd, Nat.reduceBEq, Nat.reduceEqDiff, Nat.reduceLeDiff, Nat.reduceLT, Nat.reduceSub, ↓reduceIte, zA, zI, zN, reduceCtorEq, Int.reduceToNat, zE]) ?_
  rintro ⟨j, a, y, hq⟩ ⟨hj, ha, hl⟩
  dsimp only at hj ha hl ⊢
  have hlen : ks.length = d.kids.length := c4.symm
  have hkl := pxNs_len ks
  by_cases hlt : j < ks.length
  · have e1 := getD_map av ks j .top hlt
    have e2 := getD_map av d.kids j .top (by omega)
    have hbn : (acc ++ a).length + pxN ks[j] ≤ 1048576 := by
      have b1 := hitXs_take_len ha
      have b2 := pxNs_take ks j hlt
      rw [List.length_append]; omega
    have C := ih ks[j] (List.getElem_mem hlt) (d.kids[j]'(by omega)) (acc ++ a) y hq hl hbn
    have hst := hitXs_step hlen hlt
    rw [ha] at hst
    simp only at hst
    rcases hl with ⟨z, rfl, rfl⟩ | ⟨v, rfl, rfl⟩
    · simp +contextual -dsimp (maxSteps := 2000000) only [↓SD, SU, SB, Nat.reduceAdd, Nat.reduceBEq, Nat.reduceEqDiff, Nat.reduceLeDiff, Nat.reduceLT, Nat.reduceSub, ↓reduceIte, zA, zI, zN, reduceCtorEq, Int.reduceToNat, zE, Int.reduceEq, Int.reduceLT, Int.reduceLE, Int.reduceNeg, Int.reduceAdd, Int.reduceSub, hlt, map_len, e1, e2, px_cells, px_pur, px_pur1, px_purA, px_one, px_ok, c4]
      refine aCallH_of [] C (by simp +contextual -dsimp only [↓SD, SU, SB, Nat.reduceAdd, Nat.reduceBEq, Nat.reduceEqDiff, Nat.reduceLeDiff, Nat.reduceLT, Nat.reduceSub, ↓reduceIte, zA, zI, zN, reduceCtorEq, Int.reduceToNat, zE, px_cells, px_pur, px_pur1, px_purA, px_one, px_ok, false_and]) ?_
      rintro r hp' hr
      cases hh : hitX ks[j] (d.kids[j]'(by omega)) with
      | none =>
        rw [hh] at hr hst
        obtain ⟨rfl, rfl⟩ := hr
        simp +contextual -dsimp (maxSteps := 2000000) only [↓SD, SU, SB, Nat.reduceAdd, Nat.reduceBEq, Nat.reduceEqDiff, Nat.reduceLeDiff, Nat.reduceLT, Nat.reduceSub, ↓reduceIte, zA, zI, zN, reduceCtorEq, Int.reduceToNat, zE, Int.reduceEq, Int.reduceLT, Int.reduceLE, Int.reduceNeg, Int.reduceAdd, Int.reduceSub]
        refine Goes.post [] ?_
        simp +contextual -dsimp (maxSteps := 2000000) only [↓SD, SU, SB, Nat.reduceAdd, Nat.reduceBEq, Nat.reduceEqDiff, Nat.reduceLeDiff, Nat.reduceLT, Nat.reduceSub, ↓reduceIte, zA, zI, zN, reduceCtorEq, Int.reduceToNat, zE]
        rw [hitXs_no hlen (by omega) hst]
        exact ⟨rfl, rfl⟩
      | some b =>
        rw [hh] at hr hst
        obtain ⟨y', hy', rfl⟩ := hr
        have hy2 := hy'
        rw [List.append_assoc] at hy2
        rcases hy' with ⟨z', rfl, rfl⟩ | ⟨v', rfl, rfl⟩
        · simp +contextual -dsimp (maxSteps := 2000000) only [↓SD, SU, SB, Nat.reduceAdd, Nat.reduceBEq, Nat.reduceEqDiff, Nat.reduceLeDiff, Nat.reduceLT, Nat.reduceSub, ↓reduceIte, zA, zI, zN, reduceCtorEq, Int.reduceToNat, zE, Int.reduceEq, Int.reduceLT, Int.reduceLE, Int.reduceNeg, Int.reduceAdd, Int.reduceSub]
          exact ⟨by omega, Goes.le ⟨⟨j + 1, a ++ b, .nils, []⟩, ⟨⟨hlt, hst, hy2⟩, (by first | omega | (simp only; omega))⟩, rfl⟩ (by simp +contextual -dsimp only [↓SD, SU, SB, Nat.reduceAdd, Nat.reduceBEq, Nat.reduceEqDiff, Nat.reduceLeDiff, Nat.reduceLT, Nat.reduceSub, ↓reduceIte, zA, zI, zN, reduceCtorEq, Int.reduceToNat, zE, Int.natCast_add]) (by simp +contextual -dsimp only [↓SD, SU, SB, Nat.reduceAdd, Nat.reduceBEq, Nat.reduceEqDiff, Nat.reduceLeDiff, Nat.reduceLT, Nat.reduceSub, ↓reduceIte, zA, zI, zN, reduceCtorEq, Int.reduceToNat, zE])⟩
        · simp +contextual -dsimp (maxSteps := 2000000) only [↓SD, SU, SB, Nat.reduceAdd, Nat.reduceBEq, Nat.reduceEqDiff, Nat.reduceLeDiff, Nat.reduceLT, Nat.reduceSub, ↓reduceIte, zA, zI, zN, reduceCtorEq, Int.reduceToNat, zE, Int.reduceEq, Int.reduceLT, Int.reduceLE, Int.reduceNeg, Int.reduceAdd, Int.reduceSub]
          exact ⟨by omega, Goes.le ⟨⟨j + 1, a ++ b, .row 24 v' (acc ++ a ++ b).length, [(24, ⟨v', false, 67, 1, (acc ++ a ++ b).map av⟩)]⟩, ⟨⟨hlt, hst, hy2⟩, (by first | omega | (simp only; omega))⟩, rfl⟩ (by simp +contextual -dsimp only [↓SD, SU, SB, Nat.reduceAdd, Nat.reduceBEq, Nat.reduceEqDiff, Nat.reduceLeDiff, Nat.reduceLT, Nat.reduceSub, ↓reduceIte, zA, zI, zN, reduceCtorEq, Int.reduceToNat, zE, Int.natCast_add]) (by simp +contextual -dsimp only [↓SD, SU, SB, Nat.reduceAdd, Nat.reduceBEq, Nat.reduceEqDiff, Nat.reduceLeDiff, Nat.reduceLT, Nat.reduceSub, ↓reduceIte, zA, zI, zN, reduceCtorEq, Int.reduceToNat, zE])⟩
    · simp +contextual -dsimp (maxSteps := 2000000) only [↓SD, SU, SB, Nat.reduceAdd, Nat.reduceBEq, Nat.reduceEqDiff, Nat.reduceLeDiff, Nat.reduceLT, Nat.reduceSub, ↓reduceIte, zA, zI, zN, reduceCtorEq, Int.reduceToNat, zE, Int.reduceEq, Int.reduceLT, Int.reduceLE, Int.reduceNeg, Int.reduceAdd, Int.reduceSub, hlt, map_len, e1, e2, px_cells, px_pur, px_pur1, px_purA, px_one, px_ok, c4]
      refine aCallH_of [24] C (by simp +contextual -dsimp only [↓SD, SU, SB, Nat.reduceAdd, Nat.reduceBEq, Nat.reduceEqDiff, Nat.reduceLeDiff, Nat.reduceLT, Nat.reduceSub, ↓reduceIte, zA, zI, zN, reduceCtorEq, Int.reduceToNat, zE, px_cells, px_pur, px_pur1, px_purA, px_one, px_ok, false_and]) ?_
      rintro r hp' hr
      cases hh : hitX ks[j] (d.kids[j]'(by omega)) with
      | none =>
        rw [hh] at hr hst
        obtain ⟨rfl, rfl⟩ := hr
        simp +contextual -dsimp (maxSteps := 2000000) only [↓SD, SU, SB, Nat.reduceAdd, Nat.reduceBEq, Nat.reduceEqDiff, Nat.reduceLeDiff, Nat.reduceLT, Nat.reduceSub, ↓reduceIte, zA, zI, zN, reduceCtorEq, Int.reduceToNat, zE, Int.reduceEq, Int.reduceLT, Int.reduceLE, Int.reduceNeg, Int.reduceAdd, Int.reduceSub]
        refine Goes.post [] ?_
        simp +contextual -dsimp (maxSteps := 2000000) only [↓SD, SU, SB, Nat.reduceAdd, Nat.reduceBEq, Nat.reduceEqDiff, Nat.reduceLeDiff, Nat.reduceLT, Nat.reduceSub, ↓reduceIte, zA, zI, zN, reduceCtorEq, Int.reduceToNat, zE]
        rw [hitXs_no hlen (by omega) hst]
        exact ⟨rfl, rfl⟩
      | some b =>
        rw [hh] at hr hst
        obtain ⟨y', hy', rfl⟩ := hr
        have hy2 := hy'
        rw [List.append_assoc] at hy2
        rcases hy' with ⟨z', rfl, rfl⟩ | ⟨v', rfl, rfl⟩
        · simp +contextual -dsimp (maxSteps := 2000000) only [↓SD, SU, SB, Nat.reduceAdd, Nat.reduceBEq, Nat.reduceEqDiff, Nat.reduceLeDiff, Nat.reduceLT, Nat.reduceSub, ↓reduceIte, zA, zI, zN, reduceCtorEq, Int.reduceToNat, zE, Int.reduceEq, Int.reduceLT, Int.reduceLE, Int.reduceNeg, Int.reduceAdd, Int.reduceSub]
          exact ⟨by omega, Goes.le ⟨⟨j + 1, a ++ b, .nils, []⟩, ⟨⟨hlt, hst, hy2⟩, (by first | omega | (simp only; omega))⟩, rfl⟩ (by simp +contextual -dsimp only [↓SD, SU, SB, Nat.reduceAdd, Nat.reduceBEq, Nat.reduceEqDiff, Nat.reduceLeDiff, Nat.reduceLT, Nat.reduceSub, ↓reduceIte, zA, zI, zN, reduceCtorEq, Int.reduceToNat, zE, Int.natCast_add]) (by simp +contextual -dsimp only [↓SD, SU, SB, Nat.reduceAdd, Nat.reduceBEq, Nat.reduceEqDiff, Nat.reduceLeDiff, Nat.reduceLT, Nat.reduceSub, ↓reduceIte, zA, zI, zN, reduceCtorEq, Int.reduceToNat, zE])⟩
        · simp +contextual -dsimp (maxSteps := 2000000) only [↓SD, SU, SB, Nat.reduceAdd, Nat.reduceBEq, Nat.reduceEqDiff, Nat.reduceLeDiff, Nat.reduceLT, Nat.reduceSub, ↓reduceIte, zA, zI, zN, reduceCtorEq, Int.reduceToNat, zE, Int.reduceEq, Int.reduceLT, Int.reduceLE, Int.reduceNeg, Int.reduceAdd, Int.reduceSub]
          exact ⟨by omega, Goes.le ⟨⟨j + 1, a ++ b, .row 24 v' (acc ++ a ++ b).length, [(24, ⟨v', false, 67, 1, (acc ++ a ++ b).map av⟩)]⟩, ⟨⟨hlt, hst, hy2⟩, (by first | omega | (simp only; omega))⟩, rfl⟩ (by simp +contextual -dsimp only [↓SD, SU, SB, Nat.reduceAdd, Nat.reduceBEq, Nat.reduceEqDiff, Nat.reduceLeDiff, Nat.reduceLT, Nat.reduceSub, ↓reduceIte, zA, zI, zN, reduceCtorEq, Int.reduceToNat, zE, Int.natCast_add]) (by simp +contextual -dsimp only [↓SD, SU, SB, Nat.reduceAdd, Nat.reduceBEq, Nat.reduceEqDiff, Nat.reduceLeDiff, Nat.reduceLT, Nat.reduceSub, ↓reduceIte, zA, zI, zN, reduceCtorEq, Int.reduceToNat, zE])⟩
  · obtain rfl : j = ks.length := by omega
    rw [List.take_length, hlen, List.take_length] at ha
    rw [ha]
    rcases hl with ⟨z, rfl, rfl⟩ | ⟨v, rfl, rfl⟩
    · simp +contextual -dsimp (maxSteps := 2000000) only [↓SD, SU, SB, Nat.reduceAdd, Nat.reduceBEq, Nat.reduceEqDiff, Nat.reduceLeDiff, Nat.reduceLT, Nat.reduceSub, ↓reduceIte, zA, zI, zN, reduceCtorEq, Int.reduceToNat, zE, Int.reduceEq, Int.reduceLT, Int.reduceLE, Int.reduceNeg, Int.reduceAdd, Int.reduceSub, Nat.lt_irrefl]
      refine Goes.post [] ?_
      simp +contextual -dsimp (maxSteps := 2000000) only [↓SD, SU, SB, Nat.reduceAdd, Nat.reduceBEq, Nat.reduceEqDiff, Nat.reduceLeDiff, Nat.reduceLT, Nat.reduceSub, ↓reduceIte, zA, zI, zN, reduceCtorEq, Int.reduceToNat, zE]
      exact ⟨_, .inl ⟨z, rfl, rfl⟩, rfl⟩
    · simp +contextual -dsimp (maxSteps := 2000000) only [↓SD, SU, SB, Nat.reduceAdd, Nat.reduceBEq, Nat.reduceEqDiff, Nat.reduceLeDiff, Nat.reduceLT, Nat.reduceSub, ↓reduceIte, zA, zI, zN, reduceCtorEq, Int.reduceToNat, zE, Int.reduceEq, Int.reduceLT, Int.reduceLE, Int.reduceNeg, Int.reduceAdd, Int.reduceSub, Nat.lt_irrefl]
      refine Goes.post [(24, ⟨v, false, 67, 1, (acc ++ a).map av⟩)] ?_
      simp +contextual -dsimp (maxSteps := 2000000) only [↓SD, SU, SB, Nat.reduceAdd, Nat.reduceBEq, Nat.reduceEqDiff, Nat.reduceLeDiff, Nat.reduceLT, Nat.reduceSub, ↓reduceIte, zA, zI, zN, reduceCtorEq, Int.reduceToNat, zE, false_and]
      exact ⟨_, .inr ⟨v, rfl, rfl⟩, rfl⟩
end Go.Proofs.Ytfdkgbejhdmpbaa


set_option linter.unusedVariables false
set_option linter.unusedSimpArgs false
set_option maxRecDepth 100000
namespace Go.Proofs.Ytfdkgbejhdmpbaa
open Go.RowKit Go.Proofs.Ytfdkgbejhdmpbaa.Av Go.Proofs.Ytfdkgbejhdmpbaa.Ml
open Go.Proofs.Ytfdkgbejhdmpbaa.Av.AVal (av)

def kidPos : Nat → List Px → List Int
  | _, [] => []
  | b, t :: ts => (b : Int) :: kidPos (b + pxN t) ts
mutual
def flatX : Nat → Px → List PNode
  | b, .mk h ks => ⟨h.kind, h.n, h.s, kidPos (b + 1) ks⟩ :: flatXs (b + 1) ks
def flatXs : Nat → List Px → List PNode
  | _, [] => []
  | b, t :: ts => flatX b t ++ flatXs (b + pxN t) ts
end
theorem flatXs_len {ks : List Px} (h : ∀ k ∈ ks, ∀ b, (flatX b k).length = pxN k) : ∀ b, (flatXs b ks).length = pxNs ks := by
  induction ks with
  | nil => intro b; rw [flatXs, pxNs]; rfl
  | cons k ks ih =>
    intro b
    rw [flatXs, pxNs, List.length_append, h k (by simp), ih (fun k hk => h k (by simp [hk]))]
theorem flatX_len : ∀ t b, (flatX b t).length = pxN t := Px.ind fun n ks ih b => by
  rw [flatX, pxN, List.length_cons, flatXs_len ih]; omega
theorem flatXs_len' (b : Nat) (ks : List Px) : (flatXs b ks).length = pxNs ks := flatXs_len (fun k _ b => flatX_len k b) b
theorem flatXs_snoc : ∀ (b : Nat) (ks : List Px) (k : Px), flatXs b (ks ++ [k]) = flatXs b ks ++ flatX (b + pxNs ks) k
  | b, [], k => by simp [flatXs, pxNs]
  | b, t :: ts, k => by
    rw [List.cons_append, flatXs, flatXs, pxNs, flatXs_snoc, List.append_assoc, Nat.add_assoc]
theorem kidPos_snoc : ∀ (b : Nat) (ks : List Px) (k : Px), kidPos b (ks ++ [k]) = kidPos b ks ++ [((b + pxNs ks : Nat) : Int)]
  | b, [], k => by simp [kidPos, pxNs]
  | b, t :: ts, k => by
    rw [List.cons_append, kidPos, kidPos, pxNs, kidPos_snoc, List.cons_append, Nat.add_assoc]
theorem kidPos_len : ∀ (b : Nat) (ks : List Px), (kidPos b ks).length = ks.length
  | b, [] => rfl
  | b, t :: ts => by rw [kidPos, List.length_cons, List.length_cons, kidPos_len]
theorem pxNs_app (ks : List Px) (k : Px) : pxNs (ks ++ [k]) = pxNs ks + pxN k := by
  rw [pxNs_sum, pxNs_sum, List.map_append, List.sum_append]; simp
/-- a row of nodes that are not all laid down yet -/
def grow (G : List AV) (x : AV) (hp : Hp) : Prop := (G = [] ∧ x = .nils ∧ hp = []) ∨ ∃ v, x = .row 29 v G.length ∧ hp = [(29, ⟨v, false, 83, 4, G⟩)]
def FlatPost (G : List AV) (e : Px) (r : AV) (hp' : Hp) : Prop := ∃ v, r = .tup [.row 29 v (G.length + pxN e), .int .i64 G.length] ∧ hp' = [(29, ⟨v, false, 83, 4, G ++ (flatX G.length e).map av⟩)]
structure FlS where
  j : Nat
  v : Nat
  u : Nat
theorem flatPat_ok : ∀ (e : Px) (G : List AV) (x : AV) (hp : Hp), grow G x hp → G.length + pxN e ≤ 1048576 → CallsH Try.prog 63 [x, av e] hp (FlatPost G e) := by
  refine Px.ind fun n ks ih G x hp hx hb => ?_
  have ec : pxN (.mk n ks) = 1 + pxNs ks := by rw [pxN]
  rw [ec] at hb
  have hkl := pxNs_len ks
  refine funH_impl_flatPat rfl ?_
  rcases hx with ⟨rfl, rfl, rfl⟩ | ⟨v, rfl, rfl⟩
  · simp +contextual -dsimp (maxSteps := 2000000) only [↓SD, SU, SB, Nat.reduceAdd, Nat.reduceBEq, Nat.reduceEqDiff, Nat.reduceLeDiff, Nat.reduceLT, Nat.reduceSub, ↓reduceIte, zA, zI, zN, reduceCtorEq, Int.reduceToNat, zE, Int.reduceEq, Int.reduceLT, Int.reduceLE, Int.reduceNeg, Int.reduceAdd, Int.reduceSub, ir_impl_flatPat, rs_impl_flatPat, av_Px, map_len]
    refine ⟨⟨by omega, by unfold maxLen; omega⟩, fun v1 v2 => ?_⟩
    obtain ⟨G, hG0⟩ : ∃ G : List AV, G = [] := ⟨[], rfl⟩
    have key : FlatPost [] (.mk n ks) = FlatPost G (.mk n ks) := by rw [hG0]
    rw [key]
    have hG1 : G.length = 0 := by rw [hG0]; rfl
    have hb2 : G.length + (1 + pxNs ks) ≤ 1048576 := by rw [hG1]; simpa using hb
    clear hb key
    have hb := hb2
    clear hb2
    refine aLoop_of (X := FlS) (fun q => ⟨[(0, .row 29 q.v (G.length + 1 + pxNs (ks.take q.j))), (6, .int .i64 G.length), (7, .row 30 q.u q.j), (34, .sl (ks.map av)), (35, .int .i64 ks.length), (36, .int .i64 q.j)], [(29, ⟨q.v, false, 83, 4, G ++ [.agg [.int .i64 n.kind, .int .i64 n.n, .str n.s, .nils]] ++ (flatXs (G.length + 1) (ks.take q.j)).map av⟩), (30, ⟨q.u, false, 3, 1, (kidPos (G.length + 1) (ks.take q.j)).map av⟩)]⟩) (fun q => q.j ≤ ks.length) (fun q => ks.length - q.j) ⟨0, v1, v2⟩ (Nat.zero_le _) (by simp +contextual -dsimp only [↓SD, SU, SB, Nat.reduceAdd, Nat.reduceBEq, Nat.reduceEqDiff, Nat.reduceLeDiff, Nat.reduceLT, Nat.reduceSub, ↓reduceIte, zA, zI, zN, reduceCtorEq, Int.reduceToNat, zE, List.take_zero, pxNs, hG1]) (by simp +contextual -dsimp only [↓SD, SU, SB, Nat.reduceAdd, Nat.reduceBEq, Nat.reduceEqDiff, Nat.reduceLeDiff, Nat.reduceLT, Nat.reduceSub, ↓reduceIte, zA, zI, zN, reduceCtorEq, Int.reduceToNat, zE, List.take_zero, flatXs, kidPos, List.map_nil, List.append_nil, hG0]) ?_
    rintro ⟨j, a, b⟩ hj
    dsimp only at hj ⊢
    by_cases hlt : j < ks.length
    · have e1 := getD_map av ks j .top hlt
      have b2 := pxNs_take ks j hlt
      have ht : ks.take (j + 1) = ks.take j ++ [ks[j]] := List.take_succ_eq_append_getElem hlt
      have hpx : G.length + 1 + pxNs (ks.take (j + 1)) = G.length + 1 + pxNs (ks.take j) + pxN ks[j] := by rw [ht, pxNs_app]; omega
      have hfl := flatXs_len' (G.length + 1) (ks.take j)
      have hkp := kidPos_len (G.length + 1) (ks.take j)
      rw [List.length_take, Nat.min_eq_left hj] at hkp
      have hL : (G ++ [AV.agg [.int .i64 n.kind, .int .i64 n.n, .str n.s, .nils]] ++ (flatXs (G.length + 1) (ks.take j)).map av).length = G.length + 1 + pxNs (ks.take j) := by simp [hfl]; omega
      have C := ih ks[j] (List.getElem_mem hlt) (G ++ [.agg [.int .i64 n.kind, .int .i64 n.n, .str n.s, .nils]] ++ (flatXs (G.length + 1) (ks.take j)).map av) (.row 29 a (G.length + 1 + pxNs (ks.take j))) [(29, ⟨a, false, 83, 4, G ++ [.agg [.int .i64 n.kind, .int .i64 n.n, .str n.s, .nils]] ++ (flatXs (G.length + 1) (ks.take j)).map av⟩)] (.inr ⟨a, by rw [hL], rfl⟩) (by rw [hL]; omega)
      unfold FlatPost at C
      rw [hL] at C
      have hfs : G ++ [AV.agg [.int .i64 n.kind, .int .i64 n.n, .str n.s, .nils]] ++ (flatXs (G.length + 1) (ks.take (j + 1))).map av = G ++ [AV.agg [.int .i64 n.kind, .int .i64 n.n, .str n.s, .nils]] ++ (flatXs (G.length + 1) (ks.take j)).map av ++ (flatX (G.length + 1 + pxNs (ks.take j)) ks[j]).map av := by rw [ht, flatXs_snoc, List.map_append]; simp only [List.append_assoc]
      have hks : (kidPos (G.length + 1) (ks.take (j + 1))).map (av : Int → AV) = (kidPos (G.length + 1) (ks.take j)).map av ++ [.int .i64 ((G.length : Int) + 1 + (pxNs (ks.take j) : Int))] := by rw [ht, kidPos_snoc, List.map_append]; rfl
      have hkm : ((kidPos (G.length + 1) (ks.take j)).map (av : Int → AV)).length = j := by rw [List.length_map, hkp]
      have hkt : List.take j ((kidPos (G.length + 1) (ks.take j)).map (av : Int → AV)) = (kidPos (G.length + 1) (ks.take j)).map av := List.take_of_length_le (by rw [hkm]; exact Nat.le_refl _)
      generalize (kidPos (G.length + 1) (ks.take j)).map (av : Int → AV) = KP at *
      generalize hQ : G ++ [AV.agg [.int .i64 n.kind, .int .i64 n.n, .str n.s, .nils]] ++ (flatXs (G.length + 1) (ks.take j)).map av = Q at *
      generalize (flatX (G.length + 1 + pxNs (ks.take j)) ks[j]).map av = FX at *
      generalize hN : pxNs (ks.take j) = N at *
      simp +contextual -dsimp (maxSteps := 2000000) only [↓SD, SU, SB, Nat.reduceAdd, Nat.reduceBEq, Nat.reduceEqDiff, Nat.reduceLeDiff, Nat.reduceLT, Nat.reduceSub, ↓reduceIte, zA, zI, zN, reduceCtorEq, Int.reduceToNat, zE, Int.reduceEq, Int.reduceLT, Int.reduceLE, Int.reduceNeg, Int.reduceAdd, Int.reduceSub, hlt, map_len, e1, px_cells, px_pur, px_pur1, px_purA, px_one, px_ok]
      refine aCallH_of [29] C (by simp +contextual -dsimp only [↓SD, SU, SB, Nat.reduceAdd, Nat.reduceBEq, Nat.reduceEqDiff, Nat.reduceLeDiff, Nat.reduceLT, Nat.reduceSub, ↓reduceIte, zA, zI, zN, reduceCtorEq, Int.reduceToNat, zE, px_purA, false_and]) ?_
      rintro r hp' ⟨w, rfl, rfl⟩
      simp +contextual -dsimp (maxSteps := 2000000) only [↓SD, SU, SB, Nat.reduceAdd, Nat.reduceBEq, Nat.reduceEqDiff, Nat.reduceLeDiff, Nat.reduceLT, Nat.reduceSub, ↓reduceIte, zA, zI, zN, reduceCtorEq, Int.reduceToNat, zE, Int.reduceEq, Int.reduceLT, Int.reduceLE, Int.reduceNeg, Int.reduceAdd, Int.reduceSub, hkm, hkt, Int.natCast_add]
      exact ⟨⟨by omega, by unfold maxLen; omega⟩, fun v => ⟨by omega, Goes.le ⟨⟨j + 1, w, v⟩, ⟨hlt, (by first | omega | (simp only; omega))⟩, rfl⟩ (by simp +contextual -dsimp only [↓SD, SU, SB, Nat.reduceAdd, Nat.reduceBEq, Nat.reduceEqDiff, Nat.reduceLeDiff, Nat.reduceLT, Nat.reduceSub, ↓reduceIte, zA, zI, zN, reduceCtorEq, Int.reduceToNat, zE, Int.natCast_add, hpx]) (by simp +contextual -dsimp only [↓SD, SU, SB, Nat.reduceAdd, Nat.reduceBEq, Nat.reduceEqDiff, Nat.reduceLeDiff, Nat.reduceLT, Nat.reduceSub, ↓reduceIte, zA, zI, zN, reduceCtorEq, Int.reduceToNat, zE, hfs, hks])⟩⟩
    · obtain rfl : j = ks.length := by omega
      rw [List.take_length]
      have hkp := kidPos_len (G.length + 1) ks
      have hkt : List.take ks.length ((kidPos (G.length + 1) ks).map (av : Int → AV)) = (kidPos (G.length + 1) ks).map av := List.take_of_length_le (by simp [hkp])
      have hkn : ∀ hp, ((kidPos (G.length + 1) ks).map (av : Int → AV)).map (AV.pur hp) = (kidPos (G.length + 1) ks).map av := fun hp => map_nop _ hp
      have hkm : ((kidPos (G.length + 1) ks).map (av : Int → AV)).length = ks.length := by simp [hkp]
      have hfl := flatXs_len' (G.length + 1) ks
      have hL : (G ++ [AV.agg [.int .i64 n.kind, .int .i64 n.n, .str n.s, .nils]] ++ (flatXs (G.length + 1) ks).map av).length = G.length + 1 + pxNs ks := by simp [hfl]; omega
      have hG : (G ++ [AV.agg [.int .i64 n.kind, .int .i64 n.n, .str n.s, .nils]] ++ (flatXs (G.length + 1) ks).map av).getD G.length .top = .agg [.int .i64 n.kind, .int .i64 n.n, .str n.s, .nils] := by simp [List.getD_eq_getElem?_getD]
      have hS : (G ++ [AV.agg [.int .i64 n.kind, .int .i64 n.n, .str n.s, .nils]] ++ (flatXs (G.length + 1) ks).map av).set G.length (.agg [.int .i64 n.kind, .int .i64 n.n, .str n.s, .sl ((kidPos (G.length + 1) ks).map av)]) = G ++ (flatX G.length (.mk n ks)).map av := by
        rw [flatX, List.map_cons, av_PNode]
        simp [List.set_append]
      have hlt2 : (G.length : Int) < (G.length : Int) + 1 + (pxNs ks : Int) := by omega
      have hlt3 : G.length < G.length + 1 + pxNs ks := by omega
      generalize (kidPos (G.length + 1) ks).map (av : Int → AV) = KP at *
      generalize hQ : G ++ [AV.agg [.int .i64 n.kind, .int .i64 n.n, .str n.s, .nils]] ++ (flatXs (G.length + 1) ks).map av = Q at *
      simp +contextual -dsimp (maxSteps := 2000000) only [↓SD, SU, SB, Nat.reduceAdd, Nat.reduceBEq, Nat.reduceEqDiff, Nat.reduceLeDiff, Nat.reduceLT, Nat.reduceSub, ↓reduceIte, zA, zI, zN, reduceCtorEq, Int.reduceToNat, zE, Int.reduceEq, Int.reduceLT, Int.reduceLE, Int.reduceNeg, Int.reduceAdd, Int.reduceSub, Nat.lt_irrefl]
      refine ghost_of (Goes.frz 30 (Goes.pur 7 (Goes.here ?_)))
      simp +contextual -dsimp (maxSteps := 2000000) only [↓SD, SU, SB, Nat.reduceAdd, Nat.reduceBEq, Nat.reduceEqDiff, Nat.reduceLeDiff, Nat.reduceLT, Nat.reduceSub, ↓reduceIte, zA, zI, zN, reduceCtorEq, Int.reduceToNat, zE, Int.reduceEq, Int.reduceLT, Int.reduceLE, Int.reduceNeg, Int.reduceAdd, Int.reduceSub, hkm, hkt, hkn, hL, hG, hS, hlt2, hlt3, Int.natCast_add, Nat.le_refl]
      refine Goes.post [(29, ⟨a, false, 83, 4, G ++ (flatX G.length (.mk n ks)).map av⟩)] ?_
      simp +contextual -dsimp (maxSteps := 2000000) only [↓SD, SU, SB, Nat.reduceAdd, Nat.reduceBEq, Nat.reduceEqDiff, Nat.reduceLeDiff, Nat.reduceLT, Nat.reduceSub, ↓reduceIte, zA, zI, zN, reduceCtorEq, Int.reduceToNat, zE, false_and]
      exact ⟨a, by rw [ec, Nat.add_assoc], rfl⟩
  · have t0 : List.take G.length G = G := List.take_length
    simp +contextual -dsimp (maxSteps := 2000000) only [↓SD, SU, SB, Nat.reduceAdd, Nat.reduceBEq, Nat.reduceEqDiff, Nat.reduceLeDiff, Nat.reduceLT, Nat.reduceSub, ↓reduceIte, zA, zI, zN, reduceCtorEq, Int.reduceToNat, zE, Int.reduceEq, Int.reduceLT, Int.reduceLE, Int.reduceNeg, Int.reduceAdd, Int.reduceSub, ir_impl_flatPat, rs_impl_flatPat, av_Px, map_len, t0]
    refine ⟨⟨by omega, by unfold maxLen; omega⟩, fun v1 v2 => ?_⟩
    refine aLoop_of (X := FlS) (fun q => ⟨[(0, .row 29 q.v (G.length + 1 + pxNs (ks.take q.j))), (6, .int .i64 G.length), (7, .row 30 q.u q.j), (34, .sl (ks.map av)), (35, .int .i64 ks.length), (36, .int .i64 q.j)], [(29, ⟨q.v, false, 83, 4, G ++ [.agg [.int .i64 n.kind, .int .i64 n.n, .str n.s, .nils]] ++ (flatXs (G.length + 1) (ks.take q.j)).map av⟩), (30, ⟨q.u, false, 3, 1, (kidPos (G.length + 1) (ks.take q.j)).map av⟩)]⟩) (fun q => q.j ≤ ks.length) (fun q => ks.length - q.j) ⟨0, v1, v2⟩ (Nat.zero_le _) (by simp +contextual -dsimp only [↓SD, SU, SB, Nat.reduceAdd, Nat.reduceBEq, Nat.reduceEqDiff, Nat.reduceLeDiff, Nat.reduceLT, Nat.reduceSub, ↓reduceIte, zA, zI, zN, reduceCtorEq, Int.reduceToNat, zE, List.take_zero, pxNs]) (by simp +contextual -dsimp only [↓SD, SU, SB, Nat.reduceAdd, Nat.reduceBEq, Nat.reduceEqDiff, Nat.reduceLeDiff, Nat.reduceLT, Nat.reduceSub, ↓reduceIte, zA, zI, zN, reduceCtorEq, Int.reduceToNat, zE, List.take_zero, flatXs, kidPos, List.map_nil, List.append_nil]) ?_
    rintro ⟨j, a, b⟩ hj
    dsimp only at hj ⊢
    by_cases hlt : j < ks.length
    · have e1 := getD_map av ks j .top hlt
      have b2 := pxNs_take ks j hlt
      have ht : ks.take (j + 1) = ks.take j ++ [ks[j]] := List.take_succ_eq_append_getElem hlt
      have hpx : G.length + 1 + pxNs (ks.take (j + 1)) = G.length + 1 + pxNs (ks.take j) + pxN ks[j] := by rw [ht, pxNs_app]; omega
      have hfl := flatXs_len' (G.length + 1) (ks.take j)
      have hkp := kidPos_len (G.length + 1) (ks.take j)
      rw [List.length_take, Nat.min_eq_left hj] at hkp
      have hL : (G ++ [AV.agg [.int .i64 n.kind, .int .i64 n.n, .str n.s, .nils]] ++ (flatXs (G.length + 1) (ks.take j)).map av).length = G.length + 1 + pxNs (ks.take j) := by simp [hfl]; omega
      have C := ih ks[j] (List.getElem_mem hlt) (G ++ [.agg [.int .i64 n.kind, .int .i64 n.n, .str n.s, .nils]] ++ (flatXs (G.length + 1) (ks.take j)).map av) (.row 29 a (G.length + 1 + pxNs (ks.take j))) [(29, ⟨a, false, 83, 4, G ++ [.agg [.int .i64 n.kind, .int .i64 n.n, .str n.s, .nils]] ++ (flatXs (G.length + 1) (ks.take j)).map av⟩)] (.inr ⟨a, by rw [hL], rfl⟩) (by rw [hL]; omega)
      unfold FlatPost at C
      rw [hL] at C
      have hfs : G ++ [AV.agg [.int .i64 n.kind, .int .i64 n.n, .str n.s, .nils]] ++ (flatXs (G.length + 1) (ks.take (j + 1))).map av = G ++ [AV.agg [.int .i64 n.kind, .int .i64 n.n, .str n.s, .nils]] ++ (flatXs (G.length + 1) (ks.take j)).map av ++ (flatX (G.length + 1 + pxNs (ks.take j)) ks[j]).map av := by rw [ht, flatXs_snoc, List.map_append]; simp only [List.append_assoc]
      have hks : (kidPos (G.length + 1) (ks.take (j + 1))).map (av : Int → AV) = (kidPos (G.length + 1) (ks.take j)).map av ++ [.int .i64 ((G.length : Int) + 1 + (pxNs (ks.take j) : Int))] := by rw [ht, kidPos_snoc, List.map_append]; rfl
      have hkm : ((kidPos (G.length + 1) (ks.take j)).map (av : Int → AV)).length = j := by rw [List.length_map, hkp]
      have hkt : List.take j ((kidPos (G.length + 1) (ks.take j)).map (av : Int → AV)) = (kidPos (G.length + 1) (ks.take j)).map av := List.take_of_length_le (by rw [hkm]; exact Nat.le_refl _)
      generalize (kidPos (G.length + 1) (ks.take j)).map (av : Int → AV) = KP at *
      generalize hQ : G ++ [AV.agg [.int .i64 n.kind, .int .i64 n.n, .str n.s, .nils]] ++ (flatXs (G.length + 1) (ks.take j)).map av = Q at *
      generalize (flatX (G.length + 1 + pxNs (ks.take j)) ks[j]).map av = FX at *
      generalize hN : pxNs (ks.take j) = N at *
      simp +contextual -dsimp (maxSteps := 2000000) only [↓SD, SU, SB, Nat.reduceAdd, Nat.reduceBEq, Nat.reduceEqDiff, Nat.reduceLeDiff, Nat.reduceLT, Nat.reduceSub, ↓reduceIte, zA, zI, zN, reduceCtorEq, Int.reduceToNat, zE, Int.reduceEq, Int.reduceLT, Int.reduceLE, Int.reduceNeg, Int.reduceAdd, Int.reduceSub, hlt, map_len, e1, px_cells, px_pur, px_pur1, px_purA, px_one, px_ok]
      refine aCallH_of [29] C (by simp +contextual -dsimp only [↓SD, SU, SB, Nat.reduceAdd, Nat.reduceBEq, Nat.reduceEqDiff, Nat.reduceLeDiff, Nat.reduceLT, Nat.reduceSub, ↓reduceIte, zA, zI, zN, reduceCtorEq, Int.reduceToNat, zE, px_purA, false_and]) ?_
      rintro r hp' ⟨w, rfl, rfl⟩
      simp +contextual -dsimp (maxSteps := 2000000) only [↓SD, SU, SB, Nat.reduceAdd, Nat.reduceBEq, Nat.reduceEqDiff, Nat.reduceLeDiff, Nat.reduceLT, Nat.reduceSub, ↓reduceIte, zA, zI, zN, reduceCtorEq, Int.reduceToNat, zE, Int.reduceEq, Int.reduceLT, Int.reduceLE, Int.reduceNeg, Int.reduceAdd, Int.reduceSub, hkm, hkt, Int.natCast_add]
      exact ⟨⟨by omega, by unfold maxLen; omega⟩, fun v => ⟨by omega, Goes.le ⟨⟨j + 1, w, v⟩, ⟨hlt, (by first | omega | (simp only; omega))⟩, rfl⟩ (by simp +contextual -dsimp only [↓SD, SU, SB, Nat.reduceAdd, Nat.reduceBEq, Nat.reduceEqDiff, Nat.reduceLeDiff, Nat.reduceLT, Nat.reduceSub, ↓reduceIte, zA, zI, zN, reduceCtorEq, Int.reduceToNat, zE, Int.natCast_add, hpx]) (by simp +contextual -dsimp only [↓SD, SU, SB, Nat.reduceAdd, Nat.reduceBEq, Nat.reduceEqDiff, Nat.reduceLeDiff, Nat.reduceLT, Nat.reduceSub, ↓reduceIte, zA, zI, zN, reduceCtorEq, Int.reduceToNat, zE, hfs, hks])⟩⟩
    · obtain rfl : j = ks.length := by omega
      rw [List.take_length]
      have hkp := kidPos_len (G.length + 1) ks
      have hkt : List.take ks.length ((kidPos (G.length + 1) ks).map (av : Int → AV)) = (kidPos (G.length + 1) ks).map av := List.take_of_length_le (by simp [hkp])
      have hkn : ∀ hp, ((kidPos (G.length + 1) ks).map (av : Int → AV)).map (AV.pur hp) = (kidPos (G.length + 1) ks).map av := fun hp => map_nop _ hp
      have hkm : ((kidPos (G.length + 1) ks).map (av : Int → AV)).length = ks.length := by simp [hkp]
      have hfl := flatXs_len' (G.length + 1) ks
      have hL : (G ++ [AV.agg [.int .i64 n.kind, .int .i64 n.n, .str n.s, .nils]] ++ (flatXs (G.length + 1) ks).map av).length = G.length + 1 + pxNs ks := by simp [hfl]; omega
      have hG : (G ++ [AV.agg [.int .i64 n.kind, .int .i64 n.n, .str n.s, .nils]] ++ (flatXs (G.length + 1) ks).map av).getD G.length .top = .agg [.int .i64 n.kind, .int .i64 n.n, .str n.s, .nils] := by simp [List.getD_eq_getElem?_getD]
      have hS : (G ++ [AV.agg [.int .i64 n.kind, .int .i64 n.n, .str n.s, .nils]] ++ (flatXs (G.length + 1) ks).map av).set G.length (.agg [.int .i64 n.kind, .int .i64 n.n, .str n.s, .sl ((kidPos (G.length + 1) ks).map av)]) = G ++ (flatX G.length (.mk n ks)).map av := by
        rw [flatX, List.map_cons, av_PNode]
        simp [List.set_append]
      have hlt2 : (G.length : Int) < (G.length : Int) + 1 + (pxNs ks : Int) := by omega
      have hlt3 : G.length < G.length + 1 + pxNs ks := by omega
      generalize (kidPos (G.length + 1) ks).map (av : Int → AV) = KP at *
      generalize hQ : G ++ [AV.agg [.int .i64 n.kind, .int .i64 n.n, .str n.s, .nils]] ++ (flatXs (G.length + 1) ks).map av = Q at *
      simp +contextual -dsimp (maxSteps := 2000000) only [↓SD, SU, SB, Nat.reduceAdd, Nat.reduceBEq, Nat.reduceEqDiff, Nat.reduceLeDiff, Nat.reduceLT, Nat.reduceSub, ↓reduceIte, zA, zI, zN, reduceCtorEq, Int.reduceToNat, zE, Int.reduceEq, Int.reduceLT, Int.reduceLE, Int.reduceNeg, Int.reduceAdd, Int.reduceSub, Nat.lt_irrefl]
      refine ghost_of (Goes.frz 30 (Goes.pur 7 (Goes.here ?_)))
      simp +contextual -dsimp (maxSteps := 2000000) only [↓SD, SU, SB, Nat.reduceAdd, Nat.reduceBEq, Nat.reduceEqDiff, Nat.reduceLeDiff, Nat.reduceLT, Nat.reduceSub, ↓reduceIte, zA, zI, zN, reduceCtorEq, Int.reduceToNat, zE, Int.reduceEq, Int.reduceLT, Int.reduceLE, Int.reduceNeg, Int.reduceAdd, Int.reduceSub, hkm, hkt, hkn, hL, hG, hS, hlt2, hlt3, Int.natCast_add, Nat.le_refl]
      refine Goes.post [(29, ⟨a, false, 83, 4, G ++ (flatX G.length (.mk n ks)).map av⟩)] ?_
      simp +contextual -dsimp (maxSteps := 2000000) only [↓SD, SU, SB, Nat.reduceAdd, Nat.reduceBEq, Nat.reduceEqDiff, Nat.reduceLeDiff, Nat.reduceLT, Nat.reduceSub, ↓reduceIte, zA, zI, zN, reduceCtorEq, Int.reduceToNat, zE, false_and]
      exact ⟨a, by rw [ec, Nat.add_assoc], rfl⟩
end Go.Proofs.Ytfdkgbejhdmpbaa


set_option linter.unusedVariables false
set_option linter.unusedSimpArgs false
set_option maxRecDepth 100000
namespace Go.Proofs.Ytfdkgbejhdmpbaa
open Go.RowKit Go.Proofs.Ytfdkgbejhdmpbaa.Av Go.Proofs.Ytfdkgbejhdmpbaa.Ml
open Go.Proofs.Ytfdkgbejhdmpbaa.Av.AVal (av)

/-- the nodes of a tree, as a value's -/
def dflat (e : Px) : List DNode := (flatX 0 e).map fun p => ⟨p.kind, p.n, p.s, p.kids⟩
theorem dflat_len (e : Px) : (dflat e).length = pxN e := by simp [dflat, flatX_len]
theorem dflat_av (e : Px) : (flatX 0 e).map (av : PNode → AV) = (dflat e).map av := by
  unfold dflat
  rw [List.map_map]
  refine List.map_congr_left fun p _ => ?_
  show av p = av (⟨p.kind, p.n, p.s, p.kids⟩ : DNode)
  rw [av_PNode, av_DNode]
def rowC (k u : Nat) : AV := if k = 0 then .nils else .row 24 u k
def rowD (k u : Nat) (es : List AV) : Hp := if k = 0 then [] else [(24, ⟨u, false, 78, 4, es⟩)]
theorem dataOf_ok (e : Px) (hb : pxN e ≤ 1048576) : CallsF Try.prog 38 [av e] (av (⟨dflat e⟩ : Data)) := by
  refine fun_impl_dataOf rfl (by simp; exact AVal.clean e) (AVal.clean _) ?_
  have C := flatPat_ok e [] .nils [] (.inl ⟨rfl, rfl, rfl⟩) (by simpa using hb)
  unfold FlatPost at C
  have hp := pxN_pos e
  have hl := dflat_len e
  simp only [List.length_nil, List.nil_append, Nat.zero_add, dflat_av] at C
  rw [av_Data]
  rw [← hl] at C
  have hb2 : (dflat e).length ≤ 1048576 := by rw [hl]; exact hb
  have hLn : 1 ≤ (dflat e).length := by rw [hl]; exact hp
  clear hl hp hb
  generalize dflat e = L at *
  simp +contextual -dsimp (maxSteps := 2000000) only [↓SD, SU, SB, Nat.reduceAdd, Nat.reduceBEq, Nat.reduceEqDiff, Nat.reduceLeDiff, Nat.reduceLT, Nat.reduceSub, ↓reduceIte, zA, zI, zN, reduceCtorEq, Int.reduceToNat, zE, Int.reduceEq, Int.reduceLT, Int.reduceLE, Int.reduceNeg, Int.reduceAdd, Int.reduceSub, ir_impl_dataOf, rs_impl_dataOf, px_cells, px_pur, px_pur1, px_purA, px_one, px_ok]
  intro u2
  refine aCallH_of [] C (by simp +contextual -dsimp only [↓SD, SU, SB, Nat.reduceAdd, Nat.reduceBEq, Nat.reduceEqDiff, Nat.reduceLeDiff, Nat.reduceLT, Nat.reduceSub, ↓reduceIte, zA, zI, zN, reduceCtorEq, Int.reduceToNat, zE, px_purA]) ?_
  rintro r hp' ⟨v, rfl, rfl⟩
  simp +contextual -dsimp (maxSteps := 2000000) only [↓SD, SU, SB, Nat.reduceAdd, Nat.reduceBEq, Nat.reduceEqDiff, Nat.reduceLeDiff, Nat.reduceLT, Nat.reduceSub, ↓reduceIte, zA, zI, zN, reduceCtorEq, Int.reduceToNat, zE, Int.reduceEq, Int.reduceLT, Int.reduceLE, Int.reduceNeg, Int.reduceAdd, Int.reduceSub]
  intro u5
  refine aLoop_of (X := Nat × Nat) (fun q => ⟨[(2, .ptr 2 u2 0 0), (5, .ptr 5 u5 0 0), (14, .row 29 v L.length), (15, .int .i64 L.length), (16, .int .i64 q.1)], (2, ⟨u2, false, 33, 1, [.agg [.nils]]⟩) :: (5, ⟨u5, false, 33, 1, [.agg [rowC q.1 q.2]]⟩) :: (29, ⟨v, false, 83, 4, L.map av⟩) :: rowD q.1 q.2 ((L.take q.1).map av)⟩) (fun q => q.1 ≤ L.length) (fun q => L.length - q.1) (0, 0) (Nat.zero_le _) (by simp +contextual -dsimp only [↓SD, SU, SB, Nat.reduceAdd, Nat.reduceBEq, Nat.reduceEqDiff, Nat.reduceLeDiff, Nat.reduceLT, Nat.reduceSub, ↓reduceIte, zA, zI, zN, reduceCtorEq, Int.reduceToNat, zE]) (by simp +contextual -dsimp only [↓SD, SU, SB, Nat.reduceAdd, Nat.reduceBEq, Nat.reduceEqDiff, Nat.reduceLeDiff, Nat.reduceLT, Nat.reduceSub, ↓reduceIte, zA, zI, zN, reduceCtorEq, Int.reduceToNat, zE, rowC, rowD]) ?_
  rintro ⟨j, u⟩ hj
  dsimp only at hj ⊢
  by_cases hlt : j < L.length
  · have e1 := getD_map av L j .top hlt
    have hk1 : ¬ j + 1 = 0 := by omega
    have rC1 : ∀ u, rowC (j + 1) u = .row 24 u (j + 1) := fun u => if_neg hk1
    have rD1 : ∀ u es, rowD (j + 1) u es = [(24, ⟨u, false, 78, 4, es⟩)] := fun u es => if_neg hk1
    have ht : (L.take (j + 1)).map (av : DNode → AV) = (L.take j).map av ++ [av L[j]] := by rw [List.take_succ_eq_append_getElem hlt, List.map_append]; rfl
    have htl : ((L.take j).map (av : DNode → AV)).length = j := by simp; omega
    have htt : List.take j ((L.take j).map (av : DNode → AV)) = (L.take j).map av := List.take_of_length_le (by rw [htl]; exact Nat.le_refl _)
    generalize L[j] = a at *
    rw [av_DNode] at ht
    by_cases h0 : j = 0
    · subst h0
      have c0 : ∀ u, rowC 0 u = .nils := fun _ => rfl
      have d0 : ∀ u es, rowD 0 u es = [] := fun _ _ => rfl
      have hlt' : (0 : Int) < L.length := by omega
      rw [c0, d0]
      simp +contextual -dsimp (maxSteps := 2000000) only [↓SD, SU, SB, Nat.reduceAdd, Nat.reduceBEq, Nat.reduceEqDiff, Nat.reduceLeDiff, Nat.reduceLT, Nat.reduceSub, ↓reduceIte, zA, zI, zN, reduceCtorEq, Int.reduceToNat, zE, Int.reduceEq, Int.reduceLT, Int.reduceLE, Int.reduceNeg, Int.reduceAdd, Int.reduceSub, hlt, hlt', map_len, e1, av_DNode]
      intro u7
      refine ⟨⟨by omega, by unfold maxLen; omega⟩, fun w => ?_⟩
      simp only [List.take_zero, List.map_nil, List.nil_append, Nat.zero_add] at ht rC1 rD1
      exact Goes.le ⟨(1, w), ⟨hlt, (by first | omega | (simp only; omega))⟩, rfl⟩ (by simp +contextual -dsimp only [↓SD, SU, SB, Nat.reduceAdd, Nat.reduceBEq, Nat.reduceEqDiff, Nat.reduceLeDiff, Nat.reduceLT, Nat.reduceSub, ↓reduceIte, zA, zI, zN, reduceCtorEq, Int.reduceToNat, zE]) (by simp +contextual -dsimp only [↓SD, SU, SB, Nat.reduceAdd, Nat.reduceBEq, Nat.reduceEqDiff, Nat.reduceLeDiff, Nat.reduceLT, Nat.reduceSub, ↓reduceIte, zA, zI, zN, reduceCtorEq, Int.reduceToNat, zE, rC1, rD1, ht])
    · have rC : ∀ u, rowC j u = .row 24 u j := fun u => if_neg h0
      have rD : ∀ u es, rowD j u es = [(24, ⟨u, false, 78, 4, es⟩)] := fun u es => if_neg h0
      rw [rC, rD]
      generalize (L.take j).map (av : DNode → AV) = G at *
      simp +contextual -dsimp (maxSteps := 2000000) only [↓SD, SU, SB, Nat.reduceAdd, Nat.reduceBEq, Nat.reduceEqDiff, Nat.reduceLeDiff, Nat.reduceLT, Nat.reduceSub, ↓reduceIte, zA, zI, zN, reduceCtorEq, Int.reduceToNat, zE, Int.reduceEq, Int.reduceLT, Int.reduceLE, Int.reduceNeg, Int.reduceAdd, Int.reduceSub, hlt, map_len, e1, av_DNode, htl, htt]
      intro u7
      refine ⟨⟨by omega, by unfold maxLen; omega⟩, fun w => ⟨by omega, ?_⟩⟩
      exact Goes.le ⟨(j + 1, w), ⟨hlt, (by first | omega | (simp only; omega))⟩, rfl⟩ (by simp +contextual -dsimp only [↓SD, SU, SB, Nat.reduceAdd, Nat.reduceBEq, Nat.reduceEqDiff, Nat.reduceLeDiff, Nat.reduceLT, Nat.reduceSub, ↓reduceIte, zA, zI, zN, reduceCtorEq, Int.reduceToNat, zE, Int.natCast_add]) (by simp +contextual -dsimp only [↓SD, SU, SB, Nat.reduceAdd, Nat.reduceBEq, Nat.reduceEqDiff, Nat.reduceLeDiff, Nat.reduceLT, Nat.reduceSub, ↓reduceIte, zA, zI, zN, reduceCtorEq, Int.reduceToNat, zE, rC1, rD1, ht])
  · obtain rfl : j = L.length := by omega
    have h0 : ¬ L.length = 0 := by omega
    have rC : ∀ u, rowC L.length u = .row 24 u L.length := fun u => if_neg h0
    have rD : ∀ u es, rowD L.length u es = [(24, ⟨u, false, 78, 4, es⟩)] := fun u es => if_neg h0
    have t0 : List.take L.length (L.map (av : DNode → AV)) = L.map av := List.take_of_length_le (by simp)
    rw [rC, rD, List.take_length]
    simp +contextual -dsimp (maxSteps := 2000000) only [↓SD, SU, SB, Nat.reduceAdd, Nat.reduceBEq, Nat.reduceEqDiff, Nat.reduceLeDiff, Nat.reduceLT, Nat.reduceSub, ↓reduceIte, zA, zI, zN, reduceCtorEq, Int.reduceToNat, zE, Int.reduceEq, Int.reduceLT, Int.reduceLE, Int.reduceNeg, Int.reduceAdd, Int.reduceSub, Nat.lt_irrefl, map_len, map_nop, t0, Nat.le_refl]
    trace_state
end Go.Proofs.Ytfdkgbejhdmpbaa


set_option linter.unusedVariables false
namespace Go.Proofs.Ytfdkgbejhdmpbaa
open Go.RowKit Go.Proofs.Ytfdkgbejhdmpbaa.Av Go.Proofs.Ytfdkgbejhdmpbaa.Ml
open Go.Proofs.Ytfdkgbejhdmpbaa.Av.AVal (av)

theorem kids_size {H : Nat → Hd} {K : Nat → List Int} {n f : Nat} (ih : ∀ a m, endF K n f a = some m → pxN (growX H K f a) + a = m) : ∀ (ks : List Int) (nx m : Nat), kidsF (endF K n f) ks nx = some m → pxNs (ks.map fun k => growX H K f k.toNat) + nx = m
  | [], nx, m, h => by rw [kidsF] at h; cases h; rw [List.map_nil, pxNs]; omega
  | k :: ks, nx, m, h => by
    rw [kidsF] at h
    split at h
    · rename_i hk
      cases he : endF K n f nx with
      | none => rw [he] at h; cases h
      | some m1 =>
        rw [he] at h
        have h1 := ih nx m1 he
        have h2 := kids_size ih ks m1 m h
        have hk2 : k.toNat = nx := by omega
        rw [List.map_cons, pxNs, hk2]
        omega
    · cases h
theorem grow_size {H : Nat → Hd} {K : Nat → List Int} {n : Nat} : ∀ (f a m : Nat), endF K n f a = some m → pxN (growX H K f a) + a = m
  | 0, a, m, h => by rw [endF] at h; cases h
  | f + 1, a, m, h => by
    rw [endF] at h
    split at h
    · have := kids_size (H := H) (fun a m => grow_size f a m) (K a) (a + 1) m h
      rw [growX, pxN]
      omega
    · cases h
theorem tree_size {H : Nat → Hd} {K : Nat → List Int} {n : Nat} (h : treeB K n = true) (hk : ∀ i, i < n → ∀ k ∈ K i, (i : Int) < k ∧ k < n) (hn : 0 < n) : pxN (growX H K n 0) = n := by
  have h1 := of_decide_eq_true h
  have h2 := grow_size (H := H) (n + 1) 0 n h1
  have h3 := growX_any (H := H) hk n (n + 1) 0 hn (by omega) (by omega)
  rw [h3]; omega
theorem hitXs_part {ks : List Px} (ih : ∀ k ∈ ks, ∀ d l, hitX k d = some l → ∀ x ∈ l, pxN x ≤ pxN d) : ∀ ds l, hitXs ks ds = some l → ∀ x ∈ l, pxN x ≤ pxNs ds := by
  induction ks with
  | nil => intro ds l e x hx; rw [hitXs] at e; cases e; cases hx
  | cons k ks ihk =>
    intro ds l e x hx
    cases ds with
    | nil => rw [hitXs] at e; cases e
    | cons d ds =>
      rw [hitXs] at e
      cases h1 : hitX k d with
      | none => rw [h1] at e; cases e
      | some a =>
        rw [h1] at e
        simp only at e
        cases h2 : hitXs ks ds with
        | none => rw [h2] at e; cases e
        | some b =>
          rw [h2] at e
          cases e
          rw [pxNs]
          rcases List.mem_append.1 hx with h | h
          · have := ih k (by simp) d a h1 x h; omega
          · have := ihk (fun k hk => ih k (by simp [hk])) ds b h2 x h; omega
theorem hitX_part : ∀ q d l, hitX q d = some l → ∀ x ∈ l, pxN x ≤ pxN d := Px.ind fun n ks ih d l e x hx => by
  rw [hitX] at e
  split at e
  · cases e; cases hx
  · split at e
    · cases e; simp at hx; subst hx; exact Nat.le_refl _
    · split at e
      · have := hitXs_part ih _ _ e x hx
        obtain ⟨m, es⟩ := d
        rw [pxN]
        simp only [Px.kids] at this
        omega
      · cases e
end Go.Proofs.Ytfdkgbejhdmpbaa


set_option linter.unusedVariables false
namespace Go.Proofs.Ytfdkgbejhdmpbaa
open Go.RowKit Go.Proofs.Ytfdkgbejhdmpbaa.Av Go.Proofs.Ytfdkgbejhdmpbaa.Ml
open Go.Proofs.Ytfdkgbejhdmpbaa.Av.AVal (av)

/-- a node whose children's places are moved by s -/
def shN (s : Int) (n : DNode) : PNode := ⟨n.kind, n.n, n.s, n.kids.map (· + s)⟩
theorem seg_split (l : List DNode) {a b c : Nat} (h1 : a ≤ b) (h2 : b ≤ c) : (l.drop a).take (c - a) = (l.drop a).take (b - a) ++ (l.drop b).take (c - b) := by
  have e : c - a = (b - a) + (c - b) := by omega
  rw [e, List.take_add, List.drop_drop]
  congr 3
  omega
theorem kids_flat {l : List DNode} {n f : Nat} (ih : ∀ (a m b : Nat) (s : Int), endF (dkids l) n f a = some m → (b : Int) - a = s → flatX b (growX (dhd l) (dkids l) f a) = ((l.drop a).take (m - a)).map (shN s)) :
    ∀ (ks : List Int) (nx m b : Nat) (s : Int), nx ≤ n → kidsF (endF (dkids l) n f) ks nx = some m → (b : Int) - nx = s →
      flatXs b (ks.map fun k => growX (dhd l) (dkids l) f k.toNat) = ((l.drop nx).take (m - nx)).map (shN s) ∧ kidPos b (ks.map fun k => growX (dhd l) (dkids l) f k.toNat) = ks.map (· + s)
  | [], nx, m, b, s, hn, h, hs => by
    rw [kidsF] at h; cases h
    rw [List.map_nil, flatXs, kidPos]; simp
  | k :: ks, nx, m, b, s, hn, h, hs => by
    rw [kidsF] at h
    split at h
    · rename_i hk
      cases he : endF (dkids l) n f nx with
      | none => rw [he] at h; cases h
      | some m1 =>
        rw [he] at h
        simp only at h
        have h1 := end_le (dkids l) n f nx m1 he
        have h2 := kids_le (end_le (dkids l) n f) h h1.2
        have hz := grow_size (H := dhd l) f nx m1 he
        have hk2 : k.toNat = nx := by omega
        rw [List.map_cons, flatXs, kidPos, hk2]
        generalize hT : growX (dhd l) (dkids l) f nx = T at *
        have e1 := ih nx m1 b s he hs
        rw [hT] at e1
        obtain ⟨e2, e3⟩ := kids_flat ih ks m1 m (b + pxN T) s h1.2 h (by omega)
        rw [e1, e2, e3, seg_split l (show nx ≤ m1 by omega) h2.1, List.map_append]
        refine ⟨rfl, ?_⟩
        rw [List.map_cons]
        congr 1
        omega
    · cases h
theorem flat_seg {l : List DNode} {n : Nat} (hn : n = l.length) : ∀ (f a m b : Nat) (s : Int), endF (dkids l) n f a = some m → (b : Int) - a = s → flatX b (growX (dhd l) (dkids l) f a) = ((l.drop a).take (m - a)).map (shN s)
  | 0, a, m, b, s, h, _ => by rw [endF] at h; cases h
  | f + 1, a, m, b, s, h, hs => by
    have hm := end_le (dkids l) n (f + 1) a m h
    rw [endF] at h
    split at h
    · rename_i hl
      obtain ⟨e1, e2⟩ := kids_flat (fun a m b s => flat_seg hn f a m b s) (dkids l a) (a + 1) m (b + 1) s (by omega) h (by omega)
      have hal : a < l.length := by omega
      rw [growX, flatX, e1, e2]
      have ed : l.drop a = l[a] :: l.drop (a + 1) := List.drop_eq_getElem_cons hal
      have hk : dkids l a = l[a].kids := by rw [dkids, getD_at hal]
      have hh : dhd l a = ⟨l[a].kind, l[a].n, l[a].s⟩ := by rw [dhd, getD_at hal]
      obtain ⟨c, hc⟩ : ∃ c, m - a = c + 1 := ⟨m - a - 1, by omega⟩
      have hc2 : m - (a + 1) = c := by omega
      rw [ed, hc, hc2, List.take_succ_cons, List.map_cons, hk, hh]
      rfl
    · cases h
end Go.Proofs.Ytfdkgbejhdmpbaa
