/-
 PatOk OF THE REFERENCE, by its abstract text. Conditions: none.
-/
import Derived.Test.YteeiaaogmjbcjaaGreatUJ16
import Derived.Test.YteeiaaogmjbcjaaGreatRows
import Derived.Test.YteeiaaogmjbcjaaGreatUJ05
import Derived.Test.YteeiaaogmjbcjaaGreatUJ06
import Derived.Test.YteeiaaogmjbcjaaGreatUJ09
import Derived.Test.YteeiaaogmjbcjaaGreatProg
import Derived.Test.YteeiaaogmjbcjaaGreatUAvDraw
import Derived.Test.YteeiaaogmjbcjaaGreatUJ14
set_option linter.unusedVariables false
set_option linter.unusedSimpArgs false
set_option maxRecDepth 100000
namespace Go.Proofs.YteeiaaogmjbcjaaGreat
open Go.RowKit Go.Proofs.YteeiaaogmjbcjaaGreat.Av Go.Proofs.YteeiaaogmjbcjaaGreat.Ml
open Go.Proofs.YteeiaaogmjbcjaaGreat.Av.AVal (av)

theorem Uh {l : List A0} {i : Nat} (hi : i ≤ l.length) (s : ByteArray) : ((varsOf (l.take i)).any fun x => decide (s = x)) = true ↔ ∃ j, ∃ h : j < l.length, j < i ∧ l[j].kind = 2 ∧ l[j].s = s := by
 rw [List.any_eq_true]
 simp only [varsOf, List.mem_filterMap, decide_eq_true_eq]
 constructor
 ·rintro ⟨x, ⟨n, hn, hx⟩, rfl⟩
  obtain ⟨j, hj, rfl⟩ := List.mem_take_iff_getElem.1 hn
  split at hx
  ·rename_i hk
   exact ⟨j, by omega, by omega, hk, by simpa using hx⟩
  ·cases hx
 ·rintro ⟨j, hj, hji, hk, rfl⟩
  exact ⟨_, ⟨l[j], List.mem_take_iff_getElem.2 ⟨j, by omega, rfl⟩, by simp [hk]⟩, rfl⟩

def AbI (l : List A0) (a : A0) (j : Nat) : Prop := ∀ i, ∀ h : i < l.length, i < j → ¬ (a.kind = 2 ∧ l[i].kind = 2 ∧ l[i].s = a.s)
theorem Qc (l : List A0) (hx : AE.bulk l ≤ 1048576) : AJ Tryz.prog 9 [.agg [.sl (l.map av)]] (.bool (Dy l)) := by
 have hl := BJ l
 refine Jo.F rfl (by simp; exact Ap.agg (by simp; exact AD l)) (Ap.bool _) ?_
 simp +contextual -dsimp only [↓SD, SU, simprocAttr, Jo, Aa]
 refine ⟨fun h1 => ⟨fun h2 => by rw [JC (by omega)], fun h2 => ?_⟩, fun h1 => by rw [JC (by omega)]⟩
 refine AG (X := Nat) (fun k => ⟨[(1, .obj [.sl (l.map av)]), (17, .sl (l.map av)), (18, .int .i64 l.length), (19, .int .i64 k)], []⟩) (fun k => k ≤ l.length ∧ ∀ i, i < k → Fi l i = true) (fun k => l.length - k) 0 ⟨Nat.zero_le _, fun i h => by omega⟩ (by simp +contextual -dsimp only [↓SD, SU, simprocAttr]) trivial ?_
 intro k ⟨hk, hp⟩
 by_cases hlt : k < l.length
 ·have e := getD_map av l k .top hlt
  obtain ⟨s1, s2⟩ := Eg hx k hlt
  have C3 := Sp l l[k] (by omega) (by omega) (by omega)
  have hI : Fi l k = (CM l l[k] && !(decide (l[k].kind = 2) && (varsOf (l.take k)).any fun x => decide (l[k].s = x))) := by simp only [Fi, B5 hlt]
  have hany := Uh (l := l) (i := k) (by omega) l[k].s
  generalize l[k] = a at *
  rw [Bw] at C3
  simp +contextual -dsimp only [↓SD, SU, simprocAttr, Aa, hlt, e, Bw]
  intro w
  cases hb : CM l a with
  | false =>
   rw [hb] at C3
   refine Ag _ C3 ?_
   simp +contextual -dsimp only [↓SD, SU, simprocAttr]
   rw [Ma hlt (by rw [hI, hb]; rfl)]
  | true =>
   rw [hb] at C3
   refine Ag _ C3 ?_
   simp +contextual -dsimp only [↓SD, SU, simprocAttr]
   refine AG (X := Nat) (fun j => ⟨[(1, .obj [.sl (l.map av)]), (3, .int .i64 k), (4, .ptr 4 w 0 0), (5, .int .i64 j), (17, .sl (l.map av)), (18, .int .i64 l.length), (19, .int .i64 k)], [(4, ⟨w, false, 36, 4, [av a]⟩)]⟩) (fun j => j ≤ k ∧ AbI l a j) (fun j => k - j) 0 ⟨Nat.zero_le _, fun i _ h => by omega⟩ (by simp +contextual -dsimp only [↓SD, SU, simprocAttr]) (by simp +contextual -dsimp only [↓SD, SU, simprocAttr, Bw]) ?_
   intro j ⟨hj, hq⟩
   by_cases hjk : j < k
   ·have hjl : j < l.length := by omega
    have e2 := getD_map av l j .top hjl
    simp +contextual -dsimp only [↓SD, SU, simprocAttr, Aa, hjk, hjl, e2, Bw]
    have hq2 : ¬ (a.kind = 2 ∧ l[j].kind = 2 ∧ l[j].s = a.s) → AbI l a (j + 1) := fun h0 i hi hij => by
     rcases Nat.lt_succ_iff_lt_or_eq.1 hij with h1 | rfl
     ·exact hq i hi h1
     ·exact h0
    (repeat' (first | intro _ | refine And.intro ?_ ?_))
    all_goals first | omega | skip
    ·rename_i g1 g2 g3
     have : ((varsOf (l.take k)).any fun x => decide (a.s = x)) = true := hany.2 ⟨j, hjl, hjk, g2, g3⟩
     rw [Ma hlt (by rw [hI, hb, g1, this]; rfl)]
    ·rename_i g1 g2 g3
     exact Ai.le ⟨j + 1, ⟨⟨hjk, hq2 (fun h => g3 h.2.2)⟩, (by first | omega | (simp only; omega))⟩, rfl⟩ (by simp +contextual -dsimp only [↓SD, SU, simprocAttr, Int.natCast_add]) (by simp +contextual -dsimp only [↓SD, SU, simprocAttr, Bw, g1])
    ·rename_i g1 g2
     exact Ai.le ⟨j + 1, ⟨⟨hjk, hq2 (fun h => g2 h.2.1)⟩, (by first | omega | (simp only; omega))⟩, rfl⟩ (by simp +contextual -dsimp only [↓SD, SU, simprocAttr, Int.natCast_add]) (by simp +contextual -dsimp only [↓SD, SU, simprocAttr, Bw, g1])
    ·rename_i g1
     exact Ai.le ⟨j + 1, ⟨⟨hjk, hq2 (fun h => g1 h.1)⟩, (by first | omega | (simp only; omega))⟩, rfl⟩ (by simp +contextual -dsimp only [↓SD, SU, simprocAttr, Int.natCast_add]) (by simp +contextual -dsimp only [↓SD, SU, simprocAttr, Bw])
   ·obtain rfl : j = k := by omega
    have hIk : Fi l j = true := by
     rw [hI, hb, Bool.true_and, Bool.not_eq_true', Bool.and_eq_false_iff]
     by_cases g : a.kind = 2
     ·right
      rw [← Bool.not_eq_true, hany]
      rintro ⟨i, h, hi, g2, g3⟩
      exact hq i h hi ⟨g, g2, g3⟩
     ·left; exact decide_eq_false g
    simp +contextual -dsimp only [↓SD, SU, simprocAttr, Nat.lt_irrefl]
    refine ⟨by omega, Ai.le ⟨j + 1, ⟨⟨hlt, fun i hi => (Nat.lt_succ_iff_lt_or_eq.1 hi).elim (hp i) (fun e => e ▸ hIk)⟩, (by first | omega | (simp only; omega))⟩, rfl⟩ (by simp +contextual -dsimp only [↓SD, SU, simprocAttr, Int.natCast_add]) trivial⟩
 ·obtain rfl : k = l.length := by omega
  have C := UI l hx (l.length + 1) 0 (by omega) (by omega)
  simp +contextual -dsimp only [↓SD, SU, simprocAttr, Aa, Nat.lt_irrefl]
  refine Ag _ C ?_
  simp +contextual -dsimp only [↓SD, SU, simprocAttr, Aa]
  congr 1
  cases ht : Gb (BK l) l.length with
  | true =>
   rw [V6 (by omega) (by omega) ht hp]
   unfold Gb at ht
   rw [of_decide_eq_true ht]; simp [Yi]
  | false =>
   rw [O1 ht]
   unfold Gb at ht
   cases ho : D4 (BK l) l.length (l.length + 1) 0 with
   | none => simp [Yi]
   | some m =>
    rw [ho] at ht
    have hne : m ≠ l.length := fun e => by simp [e] at ht
    exact decide_eq_false (by simp only [Yi]; omega)

end Go.Proofs.YteeiaaogmjbcjaaGreat
set_option linter.unusedVariables false
namespace Go.Proofs.YteeiaaogmjbcjaaGreat
open Go.RowKit Go.Proofs.YteeiaaogmjbcjaaGreat.Ml

structure Gq where
 kind : Int
 n : Int
 s : ByteArray
 kids : List Int
 deriving DecidableEq, Inhabited

def Gq.rep (S : Nat → Prop) (w : World) (cs : List Value) (x : Gq) : Prop := ∃ v3, cs = [Value.int .i64 x.kind, Value.int .i64 x.n, Value.string x.s, v3] ∧ (-9223372036854775808 ≤ x.kind ∧ x.kind ≤ 9223372036854775807) ∧ (-9223372036854775808 ≤ x.n ∧ x.n ≤ 9223372036854775807) ∧ x.s.size ≤ maxLen ∧ DI S w v3 x.kids
instance : Rep Gq where
 n := 4
 rep := Gq.rep
 len := by rintro _ _ _ _ ⟨v3, rfl, _⟩; rfl
 carry := by rintro _ _ _ _ _ _ ⟨v3, rfl, h0, h1, h2, h3⟩ hS hw; exact ⟨v3, rfl, h0, h1, h2, h3.carry hS hw⟩
instance : AE Gq := ⟨fun x => AE.bulk x.kind + AE.bulk x.n + AE.bulk x.s + AE.bulk x.kids + 1, fun _ => by omega⟩

structure Data where
 nodes : List Gq
 deriving DecidableEq, Inhabited

def Data.rep (S : Nat → Prop) (w : World) (cs : List Value) (x : Data) : Prop := ∃ v0, cs = [v0] ∧ DI S w v0 x.nodes
instance : Rep Data where
 n := 1
 rep := Data.rep
 len := by rintro _ _ _ _ ⟨v0, rfl, _⟩; rfl
 carry := by rintro _ _ _ _ _ _ ⟨v0, rfl, h0⟩ hS hw; exact ⟨v0, rfl, h0.carry hS hw⟩
instance : AE Data := ⟨fun x => AE.bulk x.nodes + 1, fun _ => by omega⟩

end Go.Proofs.YteeiaaogmjbcjaaGreat
set_option linter.unusedVariables false
set_option maxRecDepth 100000
set_option linter.unusedVariables false
set_option linter.unusedSimpArgs false
set_option maxRecDepth 100000
namespace Go.Proofs.YteeiaaogmjbcjaaGreat
open Go.RowKit Go.Proofs.YteeiaaogmjbcjaaGreat.Av Go.Proofs.YteeiaaogmjbcjaaGreat.Ml
open Go.Proofs.YteeiaaogmjbcjaaGreat.Av.AVal (av)

instance : AVal Gq := ⟨fun x => .agg [.int .i64 x.kind, .int .i64 x.n, .str x.s, .sl (x.kids.map av)], 4, fun _ => rfl, fun _ => rfl, fun x y hy => by
 simp only [AV.cells, List.mem_cons, List.not_mem_nil, or_false] at hy
 rcases hy with rfl | rfl | rfl | rfl <;> first | exact Ap.int _ _ | exact Ap.str _ | exact Ap.bool _ | exact AD x.kids, fun _ _ => rfl, fun x y hy => by
 simp only [AV.cells, List.mem_cons, List.not_mem_nil, or_false] at hy
 rcases hy with rfl | rfl | rfl | rfl <;> rfl⟩
theorem Aae (x : Gq) : av x = .agg [.int .i64 x.kind, .int .i64 x.n, .str x.s, .sl (x.kids.map av)] := eqq rfl
instance : DR Gq := ⟨fun {S w cs y} h => by
 obtain ⟨v3, rfl, h0, h1, h2, r3⟩ := h
 exact VRs.cons (.int _ _ h0.1 h0.2) (VRs.cons (.int _ _ h1.1 h1.2) (VRs.cons (.str _ h2) (VRs.cons (Cp r3) (VRs.nil))))⟩

instance : AVal Data := ⟨fun x => .agg [.sl (x.nodes.map av)], 1, fun _ => rfl, fun _ => rfl, fun x y hy => by
 simp only [AV.cells, List.mem_cons, List.not_mem_nil, or_false] at hy
 subst hy; first | exact Ap.int _ _ | exact Ap.str _ | exact Ap.bool _ | exact AD x.nodes, fun _ _ => rfl, fun x y hy => by
 simp only [AV.cells, List.mem_cons, List.not_mem_nil, or_false] at hy
 subst hy; rfl⟩
theorem Abk (x : Data) : av x = .agg [.sl (x.nodes.map av)] := eqq rfl
instance : DR Data := ⟨fun {S w cs y} h => by
 obtain ⟨v0, rfl, r0⟩ := h
 exact VRs.cons (Cp r0) (VRs.nil)⟩

end Go.Proofs.YteeiaaogmjbcjaaGreat
set_option linter.unusedVariables false
set_option maxRecDepth 100000
set_option linter.unusedVariables false
set_option linter.unusedSimpArgs false
set_option maxRecDepth 100000
set_option linter.unusedVariables false
set_option linter.unusedSimpArgs false
set_option maxRecDepth 100000
set_option linter.unusedVariables false
namespace Go.Proofs.YteeiaaogmjbcjaaGreat
open Go.RowKit Go.Proofs.YteeiaaogmjbcjaaGreat.Av Go.Proofs.YteeiaaogmjbcjaaGreat.Ml
open Go.Proofs.YteeiaaogmjbcjaaGreat.Av.AVal (av)

structure Hd where
 kind : Int
 n : Int
 s : ByteArray
 deriving DecidableEq
inductive Px where
 | mk (h : Hd) (ks : List Px)
theorem Px.ind {P : Px → Prop} (h : ∀ n ks, (∀ k ∈ ks, P k) → P (.mk n ks)) : ∀ t, P t
 | .mk n ks => h n ks fun k hk => Px.ind h k
termination_by t => SizeOf.sizeOf t
decreasing_by
 have := List.sizeOf_lt_of_mem hk
 simp only [Px.mk.sizeOf_spec]
 omega
def Px.hd : Px → Hd
 | .mk h _ => h
def Px.kids : Px → List Px
 | .mk _ ks => ks
mutual
def pxA : Px → AV
 | .mk n ks => .obj [.int .i64 n.kind, .int .i64 n.n, .str n.s, .sl (Y7 ks)]
def Y7 : List Px → List AV
 | [] => []
 | t :: ts => pxA t :: Y7 ts
end
theorem RD : ∀ ks, Y7 ks = ks.map pxA
 | [] => by rw [Y7]; rfl
 | t :: ts => by rw [Y7, RD ts]; rfl
theorem Ia (n : Hd) (ks : List Px) : pxA (.mk n ks) = .obj [.int .i64 n.kind, .int .i64 n.n, .str n.s, .sl (ks.map pxA)] := by rw [pxA, RD]
theorem XK : ∀ t, Ap (pxA t) := Px.ind fun n ks ih => by
 rw [Ia]
 refine Ap.obj ?_
 simp only [List.mem_cons, List.not_mem_nil, or_false]
 rintro x (rfl | rfl | rfl | rfl)
 ·exact E0 _
 ·exact E0 _
 ·exact Ap.str _
 ·refine Ap.sl fun e he y hy => ?_
  obtain ⟨k, hk, rfl⟩ := List.mem_map.1 he
  have h := ih k hk
  cases k with | mk m js =>
  rw [Ia] at hy h
  simp only [AV.cells, List.mem_cons, List.not_mem_nil, or_false] at hy
  subst hy
  exact h
instance : AVal Px := ⟨pxA, 1, fun x => (by cases x; rw [Ia]; rfl), fun x => (by cases x; rw [Ia]; rfl), fun x y hy => (by
 have h := XK x
 cases x with | mk n ks =>
 rw [Ia] at hy h
 simp only [AV.cells, List.mem_cons, List.not_mem_nil, or_false] at hy
 subst hy
 exact h), fun x hp => (by cases x; rw [Ia]; rfl), fun x y hy => (by
 cases x with | mk n ks =>
 rw [Ia] at hy
 simp only [AV.cells, List.mem_cons, List.not_mem_nil, or_false] at hy
 subst hy
 rfl)⟩
theorem Jy (n : Hd) (ks : List Px) : av (Px.mk n ks) = .obj [.int .i64 n.kind, .int .i64 n.n, .str n.s, .sl (ks.map av)] := Ia n ks
theorem AcF (t : Px) : av t = .obj [.int .i64 t.hd.kind, .int .i64 t.hd.n, .str t.hd.s, .sl (t.kids.map av)] := by cases t; exact Jy _ _
theorem RA (t : Px) : (av t).cells = [av t] := by cases t; rw [Jy]; rfl
theorem Y5 (t : Px) (hp : Hp) : (av t).pur hp = av t := AVal.nop t hp
theorem VU (t : Px) (hp : Hp) : (av t).Bs hp = av t := by cases t; rw [Jy]; rfl
theorem L7 (t : Px) (hp : Hp) : (av t).BN hp = av t := by cases t; rw [Jy]; rfl
theorem Y6 (t : Px) : (av t).one = true := by cases t; rw [Jy]; rfl
theorem Abz (t : Px) : (av t).ok = true := AVal.ok t

def Dc (H : Nat → Hd) (K : Nat → List Int) : Nat → Nat → Px
 | 0, i => .mk (H i) []
 | f + 1, i => .mk (H i) ((K i).map fun k => Dc H K f k.toNat)
theorem K1 {H : Nat → Hd} {K : Nat → List Int} {n : Nat} (hk : ∀ i, i < n → ∀ k ∈ K i, (i : Int) < k ∧ k < n) : ∀ (f g i : Nat), i < n → n - i ≤ f → n - i ≤ g → Dc H K f i = Dc H K g i
 | 0, g, i, hi, hf, _ => by omega
 | f + 1, 0, i, hi, _, hg => by omega
 | f + 1, g + 1, i, hi, hf, hg => by
  rw [Dc, Dc]
  congr 1
  refine List.map_congr_left fun k hk' => ?_
  have := hk i hi k hk'
  exact K1 hk f g k.toNat (by omega) (by omega) (by omega)
def phd (l : List A0) (i : Nat) : Hd := ⟨(l.getD i default).kind, (l.getD i default).n, (l.getD i default).s⟩
def B6 (l : List A0) (i : Nat) : Px := Dc (phd l) (BK l) l.length i
theorem AaI {H : Nat → Hd} {K : Nat → List Int} {n : Nat} (hk : ∀ i, i < n → ∀ k ∈ K i, (i : Int) < k ∧ k < n) {i : Nat} (hi : i < n) : Dc H K n i = .mk (H i) ((K i).map fun k => Dc H K n k.toNat) := by
 obtain ⟨m, rfl⟩ : ∃ m, n = m + 1 := ⟨n - 1, by omega⟩
 rw [Dc]
 congr 1
 refine List.map_congr_left fun k hk' => ?_
 have := hk i hi k hk'
 exact K1 hk m (m + 1) k.toNat (by omega) (by omega) (by omega)
theorem Zd {l : List A0} (h : Gb (BK l) l.length = true) {i : Nat} (hi : i < l.length) : B6 l i = .mk (phd l i) ((BK l i).map fun k => B6 l k.toNat) := AaI (fun i hi k hk => IZ h hi hk) hi
end Go.Proofs.YteeiaaogmjbcjaaGreat
set_option linter.unusedVariables false
namespace Go.Proofs.YteeiaaogmjbcjaaGreat
open Go.RowKit Go.Proofs.YteeiaaogmjbcjaaGreat.Av Go.Proofs.YteeiaaogmjbcjaaGreat.Ml
open Go.Proofs.YteeiaaogmjbcjaaGreat.Av.AVal (av)

mutual
def pxN : Px → Nat
 | .mk _ ks => 1 + Bg ks
def Bg : List Px → Nat
 | [] => 0
 | t :: ts => pxN t + Bg ts
end
theorem J5 (ks : List Px) : Bg ks = (ks.map pxN).sum := by
 induction ks with
 | nil => rw [Bg]; rfl
 | cons t ts ih => rw [Bg, ih]; rfl
theorem GH (ks : List Px) (j : Nat) (hj : j < ks.length) : Bg (ks.take j) + pxN ks[j] ≤ Bg ks := by
 rw [J5, J5]
 have h2 : ks = ks.take j ++ ks[j] :: ks.drop (j + 1) := by rw [← List.drop_eq_getElem_cons hj, List.take_append_drop]
 have h3 := congrArg (fun l : List Px => (l.map pxN).sum) h2
 simp only [List.map_append, List.map_cons, List.sum_append, List.sum_cons] at h3
 omega
theorem Qg : ∀ q, 1 ≤ pxN q
 | .mk _ _ => by rw [pxN]; omega
theorem J6 : ∀ ks : List Px, ks.length ≤ Bg ks
 | [] => by simp
 | k :: ks => by
  rw [Bg, List.length_cons]
  have := Qg k
  have := J6 ks
  omega
end Go.Proofs.YteeiaaogmjbcjaaGreat
set_option linter.unusedVariables false
namespace Go.Proofs.YteeiaaogmjbcjaaGreat

def Bz : Nat → List Px → List Int
 | _, [] => []
 | b, t :: ts => (b : Int) :: Bz (b + pxN t) ts
mutual
def A2 : Nat → Px → List A0
 | b, .mk h ks => ⟨h.kind, h.n, h.s, Bz (b + 1) ks⟩ :: A3 (b + 1) ks
def A3 : Nat → List Px → List A0
 | _, [] => []
 | b, t :: ts => A2 b t ++ A3 (b + pxN t) ts
end
theorem Np {ks : List Px} (h : ∀ k ∈ ks, ∀ b, (A2 b k).length = pxN k) : ∀ b, (A3 b ks).length = Bg ks := by
 induction ks with
 | nil => intro b; rw [A3, Bg]; rfl
 | cons k ks ih =>
  intro b
  rw [A3, Bg, List.length_append, h k (by simp), ih (fun k hk => h k (by simp [hk]))]
theorem FC : ∀ t b, (A2 b t).length = pxN t := Px.ind fun n ks ih b => by
 rw [A2, pxN, List.length_cons, Np ih]; omega
theorem Gn (b : Nat) (ks : List Px) : (A3 b ks).length = Bg ks := Np (fun k _ b => FC k b) b
theorem IP : ∀ (b : Nat) (ks : List Px) (k : Px), A3 b (ks ++ [k]) = A3 b ks ++ A2 (b + Bg ks) k
 | b, [], k => by simp [A3, Bg]
 | b, t :: ts, k => by
  rw [List.cons_append, A3, A3, Bg, IP, List.append_assoc, Nat.add_assoc]
theorem Im : ∀ (b : Nat) (ks : List Px) (k : Px), Bz b (ks ++ [k]) = Bz b ks ++ [((b + Bg ks : Nat) : Int)]
 | b, [], k => by simp [Bz, Bg]
 | b, t :: ts, k => by
  rw [List.cons_append, Bz, Bz, Bg, Im, List.cons_append, Nat.add_assoc]
theorem EN : ∀ (b : Nat) (ks : List Px), (Bz b ks).length = ks.length
 | b, [] => rfl
 | b, t :: ts => by rw [Bz, List.length_cons, List.length_cons, EN]
theorem J7 (ks : List Px) (k : Px) : Bg (ks ++ [k]) = Bg ks + pxN k := by
 rw [J5, J5, List.map_append, List.sum_append]; simp
end Go.Proofs.YteeiaaogmjbcjaaGreat
set_option linter.unusedVariables false
set_option linter.unusedSimpArgs false
set_option linter.unusedVariables false
set_option linter.unusedSimpArgs false
set_option maxRecDepth 100000
set_option linter.unusedVariables false
set_option linter.unusedSimpArgs false
set_option maxRecDepth 100000
set_option linter.unusedVariables false
set_option maxRecDepth 100000
namespace Go.Proofs.YteeiaaogmjbcjaaGreat
open Go.Proofs.YteeiaaogmjbcjaaGreat.Av

theorem Od : Tryz.prog.follows .mixedOrders = true := by kernel_rfl

def HO : Ir Tryz.prog 31 [(20,20)] [] 2 := ⟨_, _, Tryz.func31, Od, by kernel_rfl, Az [] Tryz.progTables (by conv => lhs; cbv) (by kernel_rfl)⟩
end Go.Proofs.YteeiaaogmjbcjaaGreat
