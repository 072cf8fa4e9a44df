/-
 RIGHT VALUES: what the program's and the reference's DataOk tell, by abstract texts. Conditions: none.
-/
import Derived.Test.YteeiaaogmjbcjaaGreatKJ10
import Derived.Test.YteeiaaogmjbcjaaGreatKJ06
import Derived.Test.YteeiaaogmjbcjaaGreatKJ07
set_option linter.unusedVariables false
set_option linter.unusedSimpArgs false
set_option maxRecDepth 100000
namespace Go.Proofs.YteeiaaogmjbcjaaGreat
open Go.RowKit Go.Proofs.YteeiaaogmjbcjaaGreat.Av Go.Proofs.YteeiaaogmjbcjaaGreat.Ml
open Go.Proofs.YteeiaaogmjbcjaaGreat.Av.AVal (av)

def Bb (l : List AY) (n : AY) : Bool :=
 if n.kind = 6 then decide (n.kids.length = 0) && decide (n.n = 0) && decide (n.s = bs [])
 else if n.kind = 2 then decide (n.kids.length = 0) && decide (n.n = 0)
 else if n.kind = 3 then decide (n.kids.length = 0) && decide (n.s = bs []) && (decide (-4611686018427387904 ≤ n.n) && decide (n.n ≤ 4611686018427387903))
 else if n.kind = 4 then decide (n.n = 0) && DO n.s n.kids.length (Bw AY.kind l n.kids 5)
 else if n.kind = 5 then decide (n.kids.length = 2) && decide (n.n = 0) && decide (n.s = bs [])
 else false
def A5 (l : List AY) (i : Nat) : List Int := (l.getD i default).kids
def Ct (l : List AY) : Bool := (decide (1 ≤ (l.length : Int)) && decide ((l.length : Int) ≤ 600)) && Du (A5 l) l.length && l.all (Bb l)
theorem DK {l : List AY} (hx : AB.bulk l ≤ 1048576) (k : Nat) (hk : k < l.length) : l[k].kids.length ≤ 1048576 ∧ l[k].s.size ≤ 1048576 := by
 have h1 := GM (List.getElem_mem hk)
 have h2 : AB.bulk l[k] = AB.bulk l[k].kind + AB.bulk l[k].n + AB.bulk l[k].s + AB.bulk l[k].kids + 1 := rfl
 have h3 := Bh l[k].kids
 have h4 : AB.bulk l[k].s = l[k].s.size + 1 := rfl
 omega
theorem JR {l : List AY} (h : ¬ (1 ≤ (l.length : Int) ∧ (l.length : Int) ≤ 600)) : Ct l = false := by
 cases hb : Ct l with
 | false => rfl
 | true => simp only [Ct, Bool.and_eq_true, decide_eq_true_eq] at hb; exact absurd hb.1.1 h
theorem OL {l : List AY} (h : Du (A5 l) l.length = false) : Ct l = false := by simp [Ct, h]
theorem Abk {l : List AY} {k : Nat} (h : k < l.length) (hb : Bb l l[k] = false) : Ct l = false := by
 unfold Ct; rw [Wu _ h hb, Bool.and_false]
theorem Uv {l : List AY} (h1 : 1 ≤ l.length) (h2 : l.length ≤ 600) (h3 : Du (A5 l) l.length = true) : Ct l = l.all (Bb l) := by
 rw [Ct, h3, decide_eq_true (by omega), decide_eq_true (by omega)]; simp

set_option maxHeartbeats 4000000 in
theorem Pz (l : List AY) (n : AY) (hl : l.length ≤ 1048576) (hk : n.kids.length ≤ 1048576) (hs : n.s.size ≤ 1048576) (hin : n.kids.length = 1 → 0 ≤ n.kids.getD 0 0 ∧ n.kids.getD 0 0 < l.length) :
  AG Tryz.prog 64 [.agg [.sl (l.map av)], av n] (.bool (Bb l n)) := by
 refine DR.F rfl (by simp; exact ⟨Aj.agg (by simp; exact Aw l), AVal.clean n⟩) (Aj.bool _) ?_
 obtain ⟨kind, nn, s, kids⟩ := n
 simp only at hk hs hin ⊢
 rcases kids with _ | ⟨k0, _ | ⟨k1, _ | ⟨k2, ks⟩⟩⟩
 case cons.nil =>
  obtain ⟨g0, g1⟩ := hin rfl
  simp only [List.getD_cons_zero] at g0 g1
  have g2 : k0.toNat < l.length := by omega
  have e := Nm l default g2
  rw [Bm] at e
  simp +contextual -dsimp only [↓SD, SU, simprocAttr, DR, Bm, Af, Aa, g0, g1, g2, e]
  (repeat' (first | intro _ | refine And.intro ?_ ?_))
  all_goals first | omega | skip
  all_goals first | (refine Ae _ (Di _ _ _) ?_; simp +contextual -dsimp only [↓SD, SU, simprocAttr, *]; (repeat' (first | intro _ | refine And.intro ?_ ?_))) | (refine Ae _ (DL _ _ _ (by omega)) ?_; simp +contextual -dsimp only [↓SD, SU, simprocAttr, *]; (repeat' (first | intro _ | refine And.intro ?_ ?_))) | skip
  all_goals first | omega | (simp [Bb, Bw, g0, g1, *]; done) | trace_state
 case cons.cons.cons =>
  have q0 : ¬ ((ks.length + 1 + 1 + 1 : Nat) : Int) = 0 := by omega
  have q1 : ¬ ((ks.length + 1 + 1 + 1 : Nat) : Int) = 1 := by omega
  have q2 : ¬ ((ks.length + 1 + 1 + 1 : Nat) : Int) = 2 := by omega
  simp +contextual -dsimp only [↓SD, SU, simprocAttr, DR, Bm, Aa, q0, q1, q2]
  (repeat' (first | intro _ | refine And.intro ?_ ?_))
  all_goals first | omega | skip
  all_goals first | (refine Ae _ (Di _ _ _) ?_; simp +contextual -dsimp only [↓SD, SU, simprocAttr, *, Aa]; (repeat' (first | intro _ | refine And.intro ?_ ?_))) | (refine Ae _ (DL _ _ _ (by omega)) ?_; simp +contextual -dsimp only [↓SD, SU, simprocAttr, *, Aa]; (repeat' (first | intro _ | refine And.intro ?_ ?_))) | skip
  all_goals first | omega | (simp [Bb, Bw, *]; done) | trace_state
 all_goals
  simp +contextual -dsimp only [↓SD, SU, simprocAttr, DR, Bm, Aa]
  (repeat' (first | intro _ | refine And.intro ?_ ?_))
  all_goals first | omega | skip
  all_goals first | (refine Ae _ (Di _ _ _) ?_; simp +contextual -dsimp only [↓SD, SU, simprocAttr, *]; (repeat' (first | intro _ | refine And.intro ?_ ?_))) | (refine Ae _ (DL _ _ _ (by omega)) ?_; simp +contextual -dsimp only [↓SD, SU, simprocAttr, *]; (repeat' (first | intro _ | refine And.intro ?_ ?_))) | skip
  all_goals first | omega | (simp [Bb, Bw, *]; done) | trace_state

theorem Wi (l : List AY) (i : Nat) (hi : i < l.length) : AG Tryz.prog 61 [.int .i64 i, .obj [.sl (l.map av)]] (.sl ((A5 l i).map av)) := by
 have hc : Aj (.obj [.sl (l.map av)]) := Aj.obj (by simp; exact Aw l)
 refine HN.F rfl (by simp; exact ⟨Ea _, hc⟩) (Aw _) ?_
 have e := getD_map av l i .top hi
 simp +contextual -dsimp only [↓SD, SU, simprocAttr, HN, Aa, e, Bm, hi, A5, Be hi]
theorem Wh (l : List AY) (n : AY) (hl : l.length ≤ 1048576) (hk : n.kids.length ≤ 1048576) (hs : n.s.size ≤ 1048576) (hin : n.kids.length = 1 → 0 ≤ n.kids.getD 0 0 ∧ n.kids.getD 0 0 < l.length) :
  AG Tryz.prog 63 [av n, .obj [.sl (l.map av)]] (.bool (!Bb l n)) := by
 have hc : Aj (.obj [.sl (l.map av)]) := Aj.obj (by simp; exact Aw l)
 refine HM.F rfl (by simp; exact ⟨AVal.clean n, hc⟩) (Aj.bool _) ?_
 have C := Pz l n hl hk hs hin
 rw [Bm] at C
 simp +contextual -dsimp only [↓SD, SU, simprocAttr, HM, Bm]
 refine Ae _ C ?_
 simp +contextual -dsimp only [↓SD, SU, simprocAttr]

theorem Ks (l : List AY) (hx : AB.bulk l ≤ 1048576) : AG Tryz.prog 29 [.agg [.sl (l.map av)]] (.bool (Ct l)) := by
 have hl := Bh l
 have hc : Aj (.obj [.sl (l.map av)]) := Aj.obj (by simp; exact Aw l)
 refine JI.F rfl (by simp; exact Aj.agg (by simp; exact Aw l)) (Aj.bool _) ?_
 simp +contextual -dsimp only [↓SD, SU, simprocAttr, JI, Aa]
 have C1 := Di (l.length : Int) 1 600
 by_cases hsm : 1 ≤ (l.length : Int) ∧ (l.length : Int) ≤ 600
 ·rw [decide_eq_true hsm.1, decide_eq_true hsm.2] at C1
  refine Ae _ C1 ?_
  simp +contextual -dsimp only [↓SD, SU, simprocAttr, Aa]
  have C2 := Oe (A5 l) l.length (by omega) 61 [.obj [.sl (l.map av)]] (by simp; exact hc) (by intro hp; rfl) (fun i hi => ⟨by
   have := (DK hx i hi).1
   rw [A5, Be hi]; exact this, Wi l i hi⟩)
  cases ht : Du (A5 l) l.length with
  | false =>
   rw [ht] at C2
   refine Ae _ C2 ?_
   simp +contextual -dsimp only [↓SD, SU, simprocAttr, OL ht]
  | true =>
   rw [ht] at C2
   refine Ae _ C2 ?_
   simp +contextual -dsimp only [↓SD, SU, simprocAttr, Aa]
   have C3 := I7 l 63 [.obj [.sl (l.map av)]] (fun n => !Bb l n) (by omega) (by simp; exact hc) (by intro hp; rfl) (fun n hn => by
    obtain ⟨k, hk, rfl⟩ := List.mem_iff_getElem.1 hn
    obtain ⟨s1, s2⟩ := DK hx k hk
    refine Wh l _ (by omega) (by omega) (by omega) (fun h1 => ?_)
    have := D5 ht hk (k := l[k].kids.getD 0 0) (by
     simp only [A5, Be hk]
     rw [Be (by omega)]
     exact List.getElem_mem _)
    omega)
   refine Ae _ C3 ?_
   simp +contextual -dsimp only [↓SD, SU, simprocAttr]
   congr 1
   rw [Uv (by omega) (by omega) ht, List.all_eq_not_any_not]
 ·have hf : (decide (1 ≤ (l.length : Int)) && decide ((l.length : Int) ≤ 600)) = false := by
   rw [Bool.and_eq_false_iff, decide_eq_false_iff_not, decide_eq_false_iff_not]; omega
  rw [hf] at C1
  refine Ae _ C1 ?_
  simp +contextual -dsimp only [↓SD, SU, simprocAttr, JR hsm]
end Go.Proofs.YteeiaaogmjbcjaaGreat
set_option linter.unusedVariables false
namespace Go.Proofs.YteeiaaogmjbcjaaGreat
open Go.RowKit Go.Proofs.YteeiaaogmjbcjaaGreat.Av Go.Proofs.YteeiaaogmjbcjaaGreat.Ml
open Go.Proofs.YteeiaaogmjbcjaaGreat.Av.AVal (av)

structure Hd where
 kind : Int
 n : Int
 s : ByteArray
 deriving DecidableEq
inductive Px where
 | mk (h : Hd) (ks : List Px)
theorem Px.ind {P : Px → Prop} (h : ∀ n ks, (∀ k ∈ ks, P k) → P (.mk n ks)) : ∀ t, P t
 | .mk n ks => h n ks fun k hk => Px.ind h k
termination_by t => SizeOf.sizeOf t
decreasing_by
 have := List.sizeOf_lt_of_mem hk
 simp only [Px.mk.sizeOf_spec]
 omega
def Px.hd : Px → Hd
 | .mk h _ => h
def Px.kids : Px → List Px
 | .mk _ ks => ks
mutual
def pxA : Px → AV
 | .mk n ks => .obj [.int .i64 n.kind, .int .i64 n.n, .str n.s, .sl (Aam ks)]
def Aam : List Px → List AV
 | [] => []
 | t :: ts => pxA t :: Aam ts
end
theorem SM : ∀ ks, Aam ks = ks.map pxA
 | [] => by rw [Aam]; rfl
 | t :: ts => by rw [Aam, SM ts]; rfl
theorem Jf (n : Hd) (ks : List Px) : pxA (.mk n ks) = .obj [.int .i64 n.kind, .int .i64 n.n, .str n.s, .sl (ks.map pxA)] := by rw [pxA, SM]
theorem Za : ∀ t, Aj (pxA t) := Px.ind fun n ks ih => by
 rw [Jf]
 refine Aj.obj ?_
 simp only [List.mem_cons, List.not_mem_nil, or_false]
 rintro x (rfl | rfl | rfl | rfl)
 ·exact Ea _
 ·exact Ea _
 ·exact Aj.str _
 ·refine Aj.sl fun e he y hy => ?_
  obtain ⟨k, hk, rfl⟩ := List.mem_map.1 he
  have h := ih k hk
  cases k with | mk m js =>
  rw [Jf] at hy h
  simp only [AV.cells, List.mem_cons, List.not_mem_nil, or_false] at hy
  subst hy
  exact h
instance : AVal Px := ⟨pxA, 1, fun x => (by cases x; rw [Jf]; rfl), fun x => (by cases x; rw [Jf]; rfl), fun x y hy => (by
 have h := Za x
 cases x with | mk n ks =>
 rw [Jf] at hy h
 simp only [AV.cells, List.mem_cons, List.not_mem_nil, or_false] at hy
 subst hy
 exact h), fun x hp => (by cases x; rw [Jf]; rfl), fun x y hy => (by
 cases x with | mk n ks =>
 rw [Jf] at hy
 simp only [AV.cells, List.mem_cons, List.not_mem_nil, or_false] at hy
 subst hy
 rfl)⟩
theorem El (n : Hd) (ks : List Px) : av (Px.mk n ks) = .obj [.int .i64 n.kind, .int .i64 n.n, .str n.s, .sl (ks.map av)] := Jf n ks
theorem Abx (t : Px) : av t = .obj [.int .i64 t.hd.kind, .int .i64 t.hd.n, .str t.hd.s, .sl (t.kids.map av)] := by cases t; exact El _ _
theorem C7 (t : Px) : (av t).cells = [av t] := by cases t; rw [El]; rfl
theorem E0 (t : Px) (hp : Hp) : (av t).pur hp = av t := AVal.nop t hp
theorem D6 (t : Px) (hp : Hp) : (av t).BB hp = av t := by cases t; rw [El]; rfl
theorem Cg (t : Px) (hp : Hp) : (av t).BW hp = av t := by cases t; rw [El]; rfl
theorem E1 (t : Px) : (av t).one = true := by cases t; rw [El]; rfl
theorem GZ (t : Px) : (av t).ok = true := AVal.ok t

def BD (H : Nat → Hd) (K : Nat → List Int) : Nat → Nat → Px
 | 0, i => .mk (H i) []
 | f + 1, i => .mk (H i) ((K i).map fun k => BD H K f k.toNat)
theorem HQ {H : Nat → Hd} {K : Nat → List Int} {n : Nat} (hk : ∀ i, i < n → ∀ k ∈ K i, (i : Int) < k ∧ k < n) : ∀ (f g i : Nat), i < n → n - i ≤ f → n - i ≤ g → BD H K f i = BD H K g i
 | 0, g, i, hi, hf, _ => by omega
 | f + 1, 0, i, hi, _, hg => by omega
 | f + 1, g + 1, i, hi, hf, hg => by
  rw [BD, BD]
  congr 1
  refine List.map_congr_left fun k hk' => ?_
  have := hk i hi k hk'
  exact HQ hk f g k.toNat (by omega) (by omega) (by omega)
def dhd (l : List AY) (i : Nat) : Hd := ⟨(l.getD i default).kind, (l.getD i default).n, (l.getD i default).s⟩
def phd (l : List AU) (i : Nat) : Hd := ⟨(l.getD i default).kind, (l.getD i default).n, (l.getD i default).s⟩
def B4 (l : List AY) (i : Nat) : Px := BD (dhd l) (A5 l) l.length i
def Ba (l : List AU) (i : Nat) : Px := BD (phd l) (BK l) l.length i
theorem WQ {H : Nat → Hd} {K : Nat → List Int} {n : Nat} (hk : ∀ i, i < n → ∀ k ∈ K i, (i : Int) < k ∧ k < n) {i : Nat} (hi : i < n) : BD H K n i = .mk (H i) ((K i).map fun k => BD H K n k.toNat) := by
 obtain ⟨m, rfl⟩ : ∃ m, n = m + 1 := ⟨n - 1, by omega⟩
 rw [BD]
 congr 1
 refine List.map_congr_left fun k hk' => ?_
 have := hk i hi k hk'
 exact HQ hk m (m + 1) k.toNat (by omega) (by omega) (by omega)
theorem Abi {l : List AY} (h : Du (A5 l) l.length = true) {i : Nat} (hi : i < l.length) : B4 l i = .mk (dhd l i) ((A5 l i).map fun k => B4 l k.toNat) := WQ (fun i hi k hk => D5 h hi hk) hi
theorem S8 {l : List AU} (h : Du (BK l) l.length = true) {i : Nat} (hi : i < l.length) : Ba l i = .mk (phd l i) ((BK l i).map fun k => Ba l k.toNat) := WQ (fun i hi k hk => D5 h hi hk) hi
end Go.Proofs.YteeiaaogmjbcjaaGreat
set_option linter.unusedVariables false
namespace Go.Proofs.YteeiaaogmjbcjaaGreat
open Go.RowKit Go.Proofs.YteeiaaogmjbcjaaGreat.Av Go.Proofs.YteeiaaogmjbcjaaGreat.Ml
open Go.Proofs.YteeiaaogmjbcjaaGreat.Av.AVal (av)

mutual
def DX : Px → Px → Option (List Px)
 | .mk n ks, d => if n.kind = 1 then some [] else if n.kind = 2 then some [d] else if n.kind = d.hd.kind ∧ n.n = d.hd.n ∧ n.s = d.hd.s ∧ ks.length = d.kids.length then B1 ks d.kids else none
def B1 : List Px → List Px → Option (List Px)
 | [], _ => some []
 | _ :: _, [] => none
 | k :: ks, d :: ds => match DX k d with
  | none => none
  | some a => match B1 ks ds with
   | none => none
   | some b => some (a ++ b)
end
mutual
def pxN : Px → Nat
 | .mk _ ks => 1 + AZ ks
def AZ : List Px → Nat
 | [] => 0
 | t :: ts => pxN t + AZ ts
end
theorem K6 (ks : List Px) : AZ ks = (ks.map pxN).sum := by
 induction ks with
 | nil => rw [AZ]; rfl
 | cons t ts ih => rw [AZ, ih]; rfl
theorem Qx {ks : List Px} (h : ∀ k ∈ ks, ∀ d l, DX k d = some l → l.length ≤ pxN k) : ∀ ds l, B1 ks ds = some l → l.length ≤ AZ ks := by
 induction ks with
 | nil => intro ds l e; rw [B1] at e; cases e; simp
 | cons k ks ih =>
  intro ds l e
  cases ds with
  | nil => rw [B1] at e; cases e
  | cons d ds =>
   rw [B1] at e
   cases h1 : DX k d with
   | none => rw [h1] at e; cases e
   | some a =>
    rw [h1] at e
    simp only at e
    cases h2 : B1 ks ds with
    | none => rw [h2] at e; cases e
    | some b =>
     rw [h2] at e
     cases e
     have := h k (by simp) d a h1
     have := ih (fun k hk => h k (by simp [hk])) ds b h2
     rw [AZ, List.length_append]; omega
theorem On : ∀ q d l, DX q d = some l → l.length ≤ pxN q := Px.ind fun n ks ih d l e => by
 rw [DX] at e
 rw [pxN]
 split at e
 ·cases e; simp
 ·split at e
  ·cases e; simp
  ·split at e
   ·have := Qx ih _ _ e; omega
   ·cases e
theorem L5 : ∀ (xs bs xs' bs' : List Px), xs.length = bs.length → B1 (xs ++ xs') (bs ++ bs') = match B1 xs bs with
  | none => none
  | some a => match B1 xs' bs' with
   | none => none
   | some b => some (a ++ b)
 | [], [], xs', bs', _ => by
  rw [List.nil_append, List.nil_append, B1]
  cases B1 xs' bs' <;> simp
 | k :: xs, d :: bs, xs', bs', h => by
  rw [List.cons_append, List.cons_append, B1, B1, L5 xs bs xs' bs' (by simpa using h)]
  cases DX k d with
  | none => rfl
  | some a =>
   cases B1 xs bs with
   | none => rfl
   | some b =>
    cases B1 xs' bs' with
    | none => rfl
    | some e => simp
theorem ZA (k d : Px) : B1 [k] [d] = DX k d := by
 rw [B1]
 cases DX k d with
 | none => rfl
 | some a => simp [B1]
theorem Ol {ks ds : List Px} (hl : ks.length = ds.length) {j : Nat} (hj : j < ks.length) : B1 (ks.take (j + 1)) (ds.take (j + 1)) = match B1 (ks.take j) (ds.take j) with
  | none => none
  | some a => match DX ks[j] (ds[j]'(by omega)) with
   | none => none
   | some b => some (a ++ b) := by
 rw [List.take_succ_eq_append_getElem hj, List.take_succ_eq_append_getElem (l := ds) (by omega), L5 _ _ _ _ (by simp; omega), ZA]
theorem Om {ks ds : List Px} (hl : ks.length = ds.length) {j : Nat} (hj : j ≤ ks.length) (h : B1 (ks.take j) (ds.take j) = none) : B1 ks ds = none := by
 have := L5 (ks.take j) (ds.take j) (ks.drop j) (ds.drop j) (by simp; omega)
 rw [List.take_append_drop, List.take_append_drop, h] at this
 exact this
theorem Ep (ks : List Px) (j : Nat) (hj : j < ks.length) : AZ (ks.take j) + pxN ks[j] ≤ AZ ks := by
 rw [K6, K6]
 have h2 : ks = ks.take j ++ ks[j] :: ks.drop (j + 1) := by rw [← List.drop_eq_getElem_cons hj, List.take_append_drop]
 have h3 := congrArg (fun l : List Px => (l.map pxN).sum) h2
 simp only [List.map_append, List.map_cons, List.sum_append, List.sum_cons] at h3
 omega
theorem K7 : ∀ q, 1 ≤ pxN q
 | .mk _ _ => by rw [pxN]; omega
theorem Hv : ∀ ks : List Px, ks.length ≤ AZ ks
 | [] => by simp
 | k :: ks => by
  rw [AZ, List.length_cons]
  have := K7 k
  have := Hv ks
  omega
theorem JL {ks ds : List Px} {j : Nat} {a : List Px} (h : B1 (ks.take j) (ds.take j) = some a) : a.length ≤ AZ (ks.take j) :=
 Qx (fun k _ d l e => On k d l e) _ _ h
end Go.Proofs.YteeiaaogmjbcjaaGreat
set_option linter.unusedVariables false
namespace Go.Proofs.YteeiaaogmjbcjaaGreat

def AM : Nat → List Px → List Int
 | _, [] => []
 | b, t :: ts => (b : Int) :: AM (b + pxN t) ts
mutual
def AL : Nat → Px → List AU
 | b, .mk h ks => ⟨h.kind, h.n, h.s, AM (b + 1) ks⟩ :: AJ (b + 1) ks
def AJ : Nat → List Px → List AU
 | _, [] => []
 | b, t :: ts => AL b t ++ AJ (b + pxN t) ts
end
theorem OA {ks : List Px} (h : ∀ k ∈ ks, ∀ b, (AL b k).length = pxN k) : ∀ b, (AJ b ks).length = AZ ks := by
 induction ks with
 | nil => intro b; rw [AJ, AZ]; rfl
 | cons k ks ih =>
  intro b
  rw [AJ, AZ, List.length_append, h k (by simp), ih (fun k hk => h k (by simp [hk]))]
theorem Cc : ∀ t b, (AL b t).length = pxN t := Px.ind fun n ks ih b => by
 rw [AL, pxN, List.length_cons, OA ih]; omega
theorem Dn (b : Nat) (ks : List Px) : (AJ b ks).length = AZ ks := OA (fun k _ b => Cc k b) b
theorem FJ : ∀ (b : Nat) (ks : List Px) (k : Px), AJ b (ks ++ [k]) = AJ b ks ++ AL (b + AZ ks) k
 | b, [], k => by simp [AJ, AZ]
 | b, t :: ts, k => by
  rw [List.cons_append, AJ, AJ, AZ, FJ, List.append_assoc, Nat.add_assoc]
theorem FH : ∀ (b : Nat) (ks : List Px) (k : Px), AM b (ks ++ [k]) = AM b ks ++ [((b + AZ ks : Nat) : Int)]
 | b, [], k => by simp [AM, AZ]
 | b, t :: ts, k => by
  rw [List.cons_append, AM, AM, AZ, FH, List.cons_append, Nat.add_assoc]
theorem Dq : ∀ (b : Nat) (ks : List Px), (AM b ks).length = ks.length
 | b, [] => rfl
 | b, t :: ts => by rw [AM, List.length_cons, List.length_cons, Dq]
theorem Hw (ks : List Px) (k : Px) : AZ (ks ++ [k]) = AZ ks + pxN k := by
 rw [K6, K6, List.map_append, List.sum_append]; simp
end Go.Proofs.YteeiaaogmjbcjaaGreat
set_option linter.unusedVariables false
set_option linter.unusedSimpArgs false
set_option linter.unusedVariables false
set_option linter.unusedSimpArgs false
set_option maxRecDepth 100000
namespace Go.Proofs.YteeiaaogmjbcjaaGreat
open Go.RowKit Go.Proofs.YteeiaaogmjbcjaaGreat.Av Go.Proofs.YteeiaaogmjbcjaaGreat.Ml
open Go.Proofs.YteeiaaogmjbcjaaGreat.Av.AVal (av)

theorem Z5 (n : Int) (h : -9223372036854775808 ≤ n ∧ n ≤ 9223372036854775807) : (IntKind.i64.wrap (n * 2) / 2 = n) ↔ (-4611686018427387904 ≤ n ∧ n ≤ 4611686018427387903) := by
 rw [IntKind.wrap_i64]
 omega
theorem Z4 (n : Int) (h : -9223372036854775808 ≤ n ∧ n ≤ 9223372036854775807) : ∃ m, AG Tryz.prog 66 [.int .i64 n] (.int .i64 m) ∧ (m = n ↔ (-4611686018427387904 ≤ n ∧ n ≤ 4611686018427387903)) := by
 refine ⟨IntKind.i64.wrap (n * 2) / 2, ?_, Z5 n h⟩
 refine F5.F rfl (by simp; exact Ea _) (Ea _) ?_
 have e0 : IntKind.i64.bits = 64 := rfl
 have e1 : min 1 IntKind.i64.bits = 1 := rfl
 have e2 : ∀ x : Int, x.fdiv (2 ^ 1) = x / 2 := fun x => by rw [Int.fdiv_eq_ediv_of_nonneg _ (by decide)]; rfl
 have e3 : n * 2 ^ 1 = n * 2 := rfl
 have e4 : ∀ x : Int, x.fdiv 2 = x / 2 := fun x => Int.fdiv_eq_ediv_of_nonneg _ (by decide)
 simp +contextual -dsimp only [↓SD, SU, simprocAttr, F5, e1, e2, e3, e4]
 rw [IntKind.wrap_i64]
 omega
end Go.Proofs.YteeiaaogmjbcjaaGreat
