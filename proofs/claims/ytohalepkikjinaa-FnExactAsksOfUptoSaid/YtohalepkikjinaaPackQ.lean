/-
  THE GROUND OF DATA, in one text. Conditions: none.
-/
import Derived.Test.YtohalepkikjinaaDataP
import Derived.Test.YtohalepkikjinaaPackT
import Derived.Test.YtohalepkikjinaaPackA

set_option linter.unusedVariables false
namespace Go.Proofs.Ytohalepkikjinaa
open Go.RowKit Go.Proofs.Ytohalepkikjinaa.Av Go.Proofs.Ytohalepkikjinaa.Ml
open Go.Proofs.Ytohalepkikjinaa.Av.AVal (av)

/-- a node of a pattern or of a value, without its children's places -/
structure Hd where
  kind : Int
  n : Int
  s : ByteArray
  deriving DecidableEq
inductive Px where
  | mk (h : Hd) (ks : List Px)
theorem Px.ind {P : Px → Prop} (h : ∀ n ks, (∀ k ∈ ks, P k) → P (.mk n ks)) : ∀ t, P t
  | .mk n ks => h n ks fun k hk => Px.ind h k
termination_by t => SizeOf.sizeOf t
decreasing_by
  have := List.sizeOf_lt_of_mem hk
  simp only [Px.mk.sizeOf_spec]
  omega
def Px.hd : Px → Hd
  | .mk h _ => h
def Px.kids : Px → List Px
  | .mk _ ks => ks
mutual
def pxA : Px → AV
  | .mk n ks => .obj [.int .i64 n.kind, .int .i64 n.n, .str n.s, .sl (pxAs ks)]
def pxAs : List Px → List AV
  | [] => []
  | t :: ts => pxA t :: pxAs ts
end
theorem pxAs_map : ∀ ks, pxAs ks = ks.map pxA
  | [] => by rw [pxAs]; rfl
  | t :: ts => by rw [pxAs, pxAs_map ts]; rfl
theorem pxA_mk (n : Hd) (ks : List Px) : pxA (.mk n ks) = .obj [.int .i64 n.kind, .int .i64 n.n, .str n.s, .sl (ks.map pxA)] := by rw [pxA, pxAs_map]
theorem pxA_clean : ∀ t, AvPure (pxA t) := Px.ind fun n ks ih => by
  rw [pxA_mk]
  refine AvPure.obj ?_
  simp only [List.mem_cons, List.not_mem_nil, or_false]
  rintro x (rfl | rfl | rfl | rfl)
  · exact pint _
  · exact pint _
  · exact AvPure.str _
  · refine AvPure.sl fun e he y hy => ?_
    obtain ⟨k, hk, rfl⟩ := List.mem_map.1 he
    have h := ih k hk
    cases k with | mk m js =>
    rw [pxA_mk] at hy h
    simp only [AV.cells, List.mem_cons, List.not_mem_nil, or_false] at hy
    subst hy
    exact h
instance : AVal Px := ⟨pxA, 1, fun x => (by cases x; rw [pxA_mk]; rfl), fun x => (by cases x; rw [pxA_mk]; rfl), fun x y hy => (by
  have h := pxA_clean x
  cases x with | mk n ks =>
  rw [pxA_mk] at hy h
  simp only [AV.cells, List.mem_cons, List.not_mem_nil, or_false] at hy
  subst hy
  exact h), fun x hp => (by cases x; rw [pxA_mk]; rfl), fun x y hy => (by
  cases x with | mk n ks =>
  rw [pxA_mk] at hy
  simp only [AV.cells, List.mem_cons, List.not_mem_nil, or_false] at hy
  subst hy
  rfl)⟩
theorem av_Px (n : Hd) (ks : List Px) : av (Px.mk n ks) = .obj [.int .i64 n.kind, .int .i64 n.n, .str n.s, .sl (ks.map av)] := pxA_mk n ks
theorem av_px (t : Px) : av t = .obj [.int .i64 t.hd.kind, .int .i64 t.hd.n, .str t.hd.s, .sl (t.kids.map av)] := by cases t; exact av_Px _ _
theorem px_cells (t : Px) : (av t).cells = [av t] := by cases t; rw [av_Px]; rfl
theorem px_pur (t : Px) (hp : Hp) : (av t).pur hp = av t := AVal.nop t hp
theorem px_pur1 (t : Px) (hp : Hp) : (av t).pur1 hp = av t := by cases t; rw [av_Px]; rfl
theorem px_purA (t : Px) (hp : Hp) : (av t).purA hp = av t := by cases t; rw [av_Px]; rfl
theorem px_one (t : Px) : (av t).one = true := by cases t; rw [av_Px]; rfl
theorem px_ok (t : Px) : (av t).ok = true := AVal.ok t

/-- the tree at a place: H tells the nodes, K their children's places -/
def growX (H : Nat → Hd) (K : Nat → List Int) : Nat → Nat → Px
  | 0, i => .mk (H i) []
  | f + 1, i => .mk (H i) ((K i).map fun k => growX H K f k.toNat)
theorem growX_any {H : Nat → Hd} {K : Nat → List Int} {n : Nat} (hk : ∀ i, i < n → ∀ k ∈ K i, (i : Int) < k ∧ k < n) : ∀ (f g i : Nat), i < n → n - i ≤ f → n - i ≤ g → growX H K f i = growX H K g i
  | 0, g, i, hi, hf, _ => by omega
  | f + 1, 0, i, hi, _, hg => by omega
  | f + 1, g + 1, i, hi, hf, hg => by
    rw [growX, growX]
    congr 1
    refine List.map_congr_left fun k hk' => ?_
    have := hk i hi k hk'
    exact growX_any hk f g k.toNat (by omega) (by omega) (by omega)
def dhd (l : List DNode) (i : Nat) : Hd := ⟨(l.getD i default).kind, (l.getD i default).n, (l.getD i default).s⟩
def phd (l : List PNode) (i : Nat) : Hd := ⟨(l.getD i default).kind, (l.getD i default).n, (l.getD i default).s⟩
def dtree (l : List DNode) (i : Nat) : Px := growX (dhd l) (dkids l) l.length i
def ptree (l : List PNode) (i : Nat) : Px := growX (phd l) (pkids l) l.length i
theorem tree_mk {H : Nat → Hd} {K : Nat → List Int} {n : Nat} (hk : ∀ i, i < n → ∀ k ∈ K i, (i : Int) < k ∧ k < n) {i : Nat} (hi : i < n) : growX H K n i = .mk (H i) ((K i).map fun k => growX H K n k.toNat) := by
  obtain ⟨m, rfl⟩ : ∃ m, n = m + 1 := ⟨n - 1, by omega⟩
  rw [growX]
  congr 1
  refine List.map_congr_left fun k hk' => ?_
  have := hk i hi k hk'
  exact growX_any hk m (m + 1) k.toNat (by omega) (by omega) (by omega)
theorem dtree_mk {l : List DNode} (h : treeB (dkids l) l.length = true) {i : Nat} (hi : i < l.length) : dtree l i = .mk (dhd l i) ((dkids l i).map fun k => dtree l k.toNat) := tree_mk (fun i hi k hk => tree_in h hi hk) hi
theorem ptree_mk {l : List PNode} (h : treeB (pkids l) l.length = true) {i : Nat} (hi : i < l.length) : ptree l i = .mk (phd l i) ((pkids l i).map fun k => ptree l k.toNat) := tree_mk (fun i hi k hk => tree_in h hi hk) hi
end Go.Proofs.Ytohalepkikjinaa


set_option linter.unusedVariables false
namespace Go.Proofs.Ytohalepkikjinaa
open Go.RowKit Go.Proofs.Ytohalepkikjinaa.Av Go.Proofs.Ytohalepkikjinaa.Ml
open Go.Proofs.Ytohalepkikjinaa.Av.AVal (av)

mutual
def hitX : Px → Px → Option (List Px)
  | .mk n ks, d => if n.kind = 1 then some [] else if n.kind = 2 then some [d] else if n.kind = d.hd.kind ∧ n.n = d.hd.n ∧ n.s = d.hd.s ∧ ks.length = d.kids.length then hitXs ks d.kids else none
def hitXs : List Px → List Px → Option (List Px)
  | [], _ => some []
  | _ :: _, [] => none
  | k :: ks, d :: ds => match hitX k d with
    | none => none
    | some a => match hitXs ks ds with
      | none => none
      | some b => some (a ++ b)
end
mutual
def pxN : Px → Nat
  | .mk _ ks => 1 + pxNs ks
def pxNs : List Px → Nat
  | [] => 0
  | t :: ts => pxN t + pxNs ts
end
theorem pxNs_sum (ks : List Px) : pxNs ks = (ks.map pxN).sum := by
  induction ks with
  | nil => rw [pxNs]; rfl
  | cons t ts ih => rw [pxNs, ih]; rfl
theorem hitXs_len {ks : List Px} (h : ∀ k ∈ ks, ∀ d l, hitX k d = some l → l.length ≤ pxN k) : ∀ ds l, hitXs ks ds = some l → l.length ≤ pxNs ks := by
  induction ks with
  | nil => intro ds l e; rw [hitXs] at e; cases e; simp
  | cons k ks ih =>
    intro ds l e
    cases ds with
    | nil => rw [hitXs] at e; cases e
    | cons d ds =>
      rw [hitXs] at e
      cases h1 : hitX k d with
      | none => rw [h1] at e; cases e
      | some a =>
        rw [h1] at e
        simp only at e
        cases h2 : hitXs ks ds with
        | none => rw [h2] at e; cases e
        | some b =>
          rw [h2] at e
          cases e
          have := h k (by simp) d a h1
          have := ih (fun k hk => h k (by simp [hk])) ds b h2
          rw [pxNs, List.length_append]; omega
theorem hitX_len : ∀ q d l, hitX q d = some l → l.length ≤ pxN q := Px.ind fun n ks ih d l e => by
  rw [hitX] at e
  rw [pxN]
  split at e
  · cases e; simp
  · split at e
    · cases e; simp
    · split at e
      · have := hitXs_len ih _ _ e; omega
      · cases e
theorem hitXs_app : ∀ (xs bs xs' bs' : List Px), xs.length = bs.length → hitXs (xs ++ xs') (bs ++ bs') = match hitXs xs bs with
    | none => none
    | some a => match hitXs xs' bs' with
      | none => none
      | some b => some (a ++ b)
  | [], [], xs', bs', _ => by
    rw [List.nil_append, List.nil_append, hitXs]
    cases hitXs xs' bs' <;> simp
  | k :: xs, d :: bs, xs', bs', h => by
    rw [List.cons_append, List.cons_append, hitXs, hitXs, hitXs_app xs bs xs' bs' (by simpa using h)]
    cases hitX k d with
    | none => rfl
    | some a =>
      cases hitXs xs bs with
      | none => rfl
      | some b =>
        cases hitXs xs' bs' with
        | none => rfl
        | some e => simp
theorem hitXs_one (k d : Px) : hitXs [k] [d] = hitX k d := by
  rw [hitXs]
  cases hitX k d with
  | none => rfl
  | some a => simp [hitXs]
theorem hitXs_step {ks ds : List Px} (hl : ks.length = ds.length) {j : Nat} (hj : j < ks.length) : hitXs (ks.take (j + 1)) (ds.take (j + 1)) = match hitXs (ks.take j) (ds.take j) with
    | none => none
    | some a => match hitX ks[j] (ds[j]'(by omega)) with
      | none => none
      | some b => some (a ++ b) := by
  rw [List.take_succ_eq_append_getElem hj, List.take_succ_eq_append_getElem (l := ds) (by omega), hitXs_app _ _ _ _ (by simp; omega), hitXs_one]
theorem hitXs_no {ks ds : List Px} (hl : ks.length = ds.length) {j : Nat} (hj : j ≤ ks.length) (h : hitXs (ks.take j) (ds.take j) = none) : hitXs ks ds = none := by
  have := hitXs_app (ks.take j) (ds.take j) (ks.drop j) (ds.drop j) (by simp; omega)
  rw [List.take_append_drop, List.take_append_drop, h] at this
  exact this
theorem pxNs_take (ks : List Px) (j : Nat) (hj : j < ks.length) : pxNs (ks.take j) + pxN ks[j] ≤ pxNs ks := by
  rw [pxNs_sum, pxNs_sum]
  have h2 : ks = ks.take j ++ ks[j] :: ks.drop (j + 1) := by rw [← List.drop_eq_getElem_cons hj, List.take_append_drop]
  have h3 := congrArg (fun l : List Px => (l.map pxN).sum) h2
  simp only [List.map_append, List.map_cons, List.sum_append, List.sum_cons] at h3
  omega
theorem pxN_pos : ∀ q, 1 ≤ pxN q
  | .mk _ _ => by rw [pxN]; omega
theorem pxNs_len : ∀ ks : List Px, ks.length ≤ pxNs ks
  | [] => by simp
  | k :: ks => by
    rw [pxNs, List.length_cons]
    have := pxN_pos k
    have := pxNs_len ks
    omega
theorem hitXs_take_len {ks ds : List Px} {j : Nat} {a : List Px} (h : hitXs (ks.take j) (ds.take j) = some a) : a.length ≤ pxNs (ks.take j) :=
  hitXs_len (fun k _ d l e => hitX_len k d l e) _ _ h
end Go.Proofs.Ytohalepkikjinaa


set_option linter.unusedVariables false
namespace Go.Proofs.Ytohalepkikjinaa
open Go.RowKit Go.Proofs.Ytohalepkikjinaa.Av Go.Proofs.Ytohalepkikjinaa.Ml
open Go.Proofs.Ytohalepkikjinaa.Av.AVal (av)

theorem kids_size {H : Nat → Hd} {K : Nat → List Int} {n f : Nat} (ih : ∀ a m, endF K n f a = some m → pxN (growX H K f a) + a = m) : ∀ (ks : List Int) (nx m : Nat), kidsF (endF K n f) ks nx = some m → pxNs (ks.map fun k => growX H K f k.toNat) + nx = m
  | [], nx, m, h => by rw [kidsF] at h; cases h; rw [List.map_nil, pxNs]; omega
  | k :: ks, nx, m, h => by
    rw [kidsF] at h
    split at h
    · rename_i hk
      cases he : endF K n f nx with
      | none => rw [he] at h; cases h
      | some m1 =>
        rw [he] at h
        have h1 := ih nx m1 he
        have h2 := kids_size ih ks m1 m h
        have hk2 : k.toNat = nx := by omega
        rw [List.map_cons, pxNs, hk2]
        omega
    · cases h
theorem grow_size {H : Nat → Hd} {K : Nat → List Int} {n : Nat} : ∀ (f a m : Nat), endF K n f a = some m → pxN (growX H K f a) + a = m
  | 0, a, m, h => by rw [endF] at h; cases h
  | f + 1, a, m, h => by
    rw [endF] at h
    split at h
    · have := kids_size (H := H) (fun a m => grow_size f a m) (K a) (a + 1) m h
      rw [growX, pxN]
      omega
    · cases h
theorem tree_size {H : Nat → Hd} {K : Nat → List Int} {n : Nat} (h : treeB K n = true) (hk : ∀ i, i < n → ∀ k ∈ K i, (i : Int) < k ∧ k < n) (hn : 0 < n) : pxN (growX H K n 0) = n := by
  have h1 := of_decide_eq_true h
  have h2 := grow_size (H := H) (n + 1) 0 n h1
  have h3 := growX_any (H := H) hk n (n + 1) 0 hn (by omega) (by omega)
  rw [h3]; omega
end Go.Proofs.Ytohalepkikjinaa


set_option linter.unusedVariables false
namespace Go.Proofs.Ytohalepkikjinaa
open Go.RowKit Go.Proofs.Ytohalepkikjinaa.Av Go.Proofs.Ytohalepkikjinaa.Ml
open Go.Proofs.Ytohalepkikjinaa.Av.AVal (av)

structure Tst where
  path : List Int
  kind : Int
  n : Int
  s : ByteArray
  has : Bool
structure TRow where
  tests : List Tst
  arm : Int
mutual
/-- the tests of a pattern below a path -/
def testsX : Px → List Int → List Tst
  | .mk h ks, p => if h.kind = 1 ∨ h.kind = 2 then [] else ⟨p, h.kind, h.n, h.s, decide (h.kind = 4) && decide (0 < ks.length)⟩ :: testsXs ks p 0
def testsXs : List Px → List Int → Nat → List Tst
  | [], _, _ => []
  | k :: ks, p, i => testsX k (p ++ [(i : Int)]) ++ testsXs ks p (i + 1)
end
def pathT (x t : Tst) : Bool := decide (x.path = t.path)
def beginT (x t : Tst) : Bool := decide (x.kind = t.kind) && decide (x.n = t.n) && decide (x.s = t.s) && (x.has == t.has)
def clashT (t x : Tst) : Bool := pathT x t && !beginT x t
def sameT (t x : Tst) : Bool := pathT x t && beginT x t
def yesR (rows : List TRow) (t : Tst) : List TRow := (rows.filter fun r => !r.tests.any (clashT t)).map fun r => ⟨r.tests.filter fun x => !pathT x t, r.arm⟩
def noR (rows : List TRow) (t : Tst) : List TRow := rows.filter fun r => !r.tests.any (sameT t)
def planT (go : Nat → List TRow → List Ask) (base : Nat) (rows : List TRow) (arm : Int) : List Tst → List Ask
  | [] => [⟨arm, [], 0, 0, bs [], false, 0, 0⟩]
  | t :: _ => ⟨0, t.path, t.kind, t.n, t.s, t.has, base + 1, base + 1 + (go (base + 1) (yesR rows t)).length⟩ :: (go (base + 1) (yesR rows t) ++ go (base + 1 + (go (base + 1) (yesR rows t)).length) (noR rows t))
def planS (go : Nat → List TRow → List Ask) (base : Nat) : List TRow → List Ask
  | [] => [⟨-1, [], 0, 0, bs [], false, 0, 0⟩]
  | r :: rs => planT go base (r :: rs) r.arm r.tests
/-- the nodes that rows give, behind so many others -/
def planX : Nat → Nat → List TRow → List Ask
  | 0, _, _ => []
  | f + 1, base, rows => if 400 < base then [] else planS (planX f) base rows
def wtR (rows : List TRow) : Nat := (rows.map fun r => 1 + r.tests.length).sum
theorem beginT_self (t : Tst) : beginT t t = true := by simp [beginT]
theorem wt_filter (p : TRow → Bool) (g : TRow → TRow) (hg : ∀ r, (g r).tests.length ≤ r.tests.length) : ∀ rows, wtR ((rows.filter p).map g) ≤ wtR rows
  | [] => by simp [wtR]
  | r :: rs => by
    have ih := wt_filter p g hg rs
    have := hg r
    unfold wtR at *
    by_cases hp : p r = true
    · rw [List.filter_cons_of_pos hp]
      simp only [List.map_cons, List.sum_cons]
      omega
    · rw [List.filter_cons_of_neg (by simpa using hp)]
      simp only [List.map_cons, List.sum_cons]
      omega
theorem wt_yes {r : TRow} {rs : List TRow} {t : Tst} {ts : List Tst} (h : r.tests = t :: ts) : wtR (yesR (r :: rs) t) < wtR (r :: rs) := by
  have h1 := wt_filter (fun r => !r.tests.any (clashT t)) (fun r => ⟨r.tests.filter fun x => !pathT x t, r.arm⟩) (fun r => List.length_filter_le _ _) rs
  have h2 : (r.tests.filter fun x => !pathT x t).length ≤ ts.length := by
    rw [h, List.filter_cons_of_neg (by simp [pathT])]
    exact List.length_filter_le _ _
  have h3 : r.tests.length = ts.length + 1 := by rw [h]; rfl
  unfold yesR
  unfold wtR at *
  by_cases hp : (!r.tests.any (clashT t)) = true
  · rw [List.filter_cons_of_pos (p := fun r : TRow => !r.tests.any (clashT t)) hp]
    simp only [List.map_cons, List.sum_cons]
    omega
  · rw [List.filter_cons_of_neg (p := fun r : TRow => !r.tests.any (clashT t)) (by simpa using hp)]
    simp only [List.map_cons, List.sum_cons]
    omega
theorem wt_no {r : TRow} {rs : List TRow} {t : Tst} {ts : List Tst} (h : r.tests = t :: ts) : wtR (noR (r :: rs) t) < wtR (r :: rs) := by
  have h1 := wt_filter (fun r => !r.tests.any (sameT t)) id (fun r => Nat.le_refl _) rs
  rw [List.map_id] at h1
  unfold noR
  rw [List.filter_cons_of_neg (by simp [h, sameT, beginT_self, pathT])]
  have : wtR (r :: rs) = 1 + r.tests.length + wtR rs := by simp [wtR]
  omega
theorem plan_any : ∀ (f g base : Nat) (rows : List TRow), wtR rows < f → wtR rows < g → planX f base rows = planX g base rows
  | 0, _, _, _, h, _ => by omega
  | _ + 1, 0, _, _, _, h => by omega
  | f + 1, g + 1, base, rows, hf, hg => by
    rw [planX, planX]
    split
    · rfl
    · cases rows with
      | nil => rfl
      | cons r rs =>
        rw [planS, planS]
        cases ht : r.tests with
        | nil => rfl
        | cons t ts =>
          have h1 := wt_yes (rs := rs) ht
          have h2 := wt_no (rs := rs) ht
          rw [planT, planT, plan_any f g _ _ (by omega) (by omega), plan_any f g _ (noR (r :: rs) t) (by omega) (by omega)]
theorem plan_len : ∀ (f base : Nat) (rows : List TRow), base + (planX f base rows).length ≤ max base 401
  | 0, base, rows => by rw [planX]; simp; omega
  | f + 1, base, rows => by
    rw [planX]
    split
    · simp; omega
    · cases rows with
      | nil => rw [planS]; simp; omega
      | cons r rs =>
        rw [planS]
        cases ht : r.tests with
        | nil => rw [planT]; simp; omega
        | cons t ts =>
          have h1 := plan_len f (base + 1) (yesR (r :: rs) t)
          have h2 := plan_len f (base + 1 + (planX f (base + 1) (yesR (r :: rs) t)).length) (noR (r :: rs) t)
          rw [planT]
          simp only [List.length_cons, List.length_append]
          omega
/-- where no test clashes, those that are not the same are those of other paths -/
theorem left_eq {r : TRow} {t : Tst} (h : r.tests.any (clashT t) = false) : (r.tests.filter fun x => !sameT t x) = r.tests.filter fun x => !pathT x t := by
  refine List.filter_congr fun x hx => ?_
  have := (List.any_eq_false.1 h) x hx
  unfold clashT at this
  unfold sameT
  cases h1 : pathT x t <;> cases h2 : beginT x t <;> rw [h1, h2] at this <;> first | rfl | (exact absurd rfl this)
theorem left_len {r : TRow} {t : Tst} : decide ((r.tests.filter fun x => !sameT t x).length = r.tests.length) = !r.tests.any (sameT t) := by
  rw [Bool.eq_iff_iff]
  simp
/-- the rows of patterns -/
def rowsP : Nat → List Px → List TRow
  | _, [] => []
  | i, q :: l => ⟨testsX q [], (i : Int)⟩ :: rowsP (i + 1) l
theorem rowsP_snoc : ∀ (i : Nat) (l : List Px) (q : Px), rowsP i (l ++ [q]) = rowsP i l ++ [⟨testsX q [], ((i + l.length : Nat) : Int)⟩]
  | i, [], q => by simp [rowsP]
  | i, a :: l, q => by
    rw [List.cons_append, rowsP, rowsP, rowsP_snoc, List.cons_append, List.length_cons, show i + 1 + l.length = i + (l.length + 1) by omega]
theorem testsXs_snoc : ∀ (ks : List Px) (k : Px) (p : List Int) (i : Nat), testsXs (ks ++ [k]) p i = testsXs ks p i ++ testsX k (p ++ [((i + ks.length : Nat) : Int)])
  | [], k, p, i => by simp [testsXs]
  | a :: ks, k, p, i => by
    rw [List.cons_append, testsXs, testsXs, testsXs_snoc ks k p (i + 1), List.append_assoc, List.length_cons, show i + 1 + ks.length = i + (ks.length + 1) by omega]
theorem testsXs_len {ks : List Px} (h : ∀ k ∈ ks, ∀ p, (testsX k p).length ≤ pxN k) : ∀ p i, (testsXs ks p i).length ≤ pxNs ks := by
  induction ks with
  | nil => intro p i; rw [testsXs]; simp
  | cons k ks ih =>
    intro p i
    rw [testsXs, pxNs, List.length_append]
    have h1 := h k (by simp) (p ++ [(i : Int)])
    have h2 := ih (fun k hk => h k (by simp [hk])) p (i + 1)
    omega
theorem testsX_len : ∀ q p, (testsX q p).length ≤ pxN q := Px.ind fun n ks ih p => by
  rw [testsX, pxN]
  split
  · simp
  · have := testsXs_len ih p 0
    rw [List.length_cons]
    omega
/-- the tree of patterns; none: there is no pattern, or one is not right, or the tree is too large -/
def asksO (l : List Pat) : Option (List Ask) :=
  if l = [] ∨ (l.any fun q => !patB q.nodes) = true then none
  else
    let rows := rowsP 0 (l.map fun q => ptree q.nodes 0)
    let a := planX (wtR rows + 1) 0 rows
    if 400 < a.length then none else some a
end Go.Proofs.Ytohalepkikjinaa
