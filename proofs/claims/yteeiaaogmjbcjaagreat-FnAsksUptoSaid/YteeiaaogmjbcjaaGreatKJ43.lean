/-
  THE ABSTRACT TEXTS OF FUNCTIONS (EY), printed by irgen.py, and that they are the functions' own. Conditions: none.
-/
import Derived.Test.YteeiaaogmjbcjaaGreatProg
import Derived.Test.YteeiaaogmjbcjaaGreatKAvDraw
import Derived.Test.YteeiaaogmjbcjaaGreatKJ39
import Derived.Test.YteeiaaogmjbcjaaGreatKWords
import Derived.Test.YteeiaaogmjbcjaaGreatKJ06
import Derived.Test.YteeiaaogmjbcjaaGreatKJ11
import Derived.Test.YteeiaaogmjbcjaaGreatKJ12
set_option linter.unusedVariables false
set_option maxRecDepth 100000
namespace Go.Proofs.YteeiaaogmjbcjaaGreat
open Go.Proofs.YteeiaaogmjbcjaaGreat.Av

theorem Fc : Tryz.prog.follows .mixedOrders = true := by kernel_rfl

def JJ : Ir Tryz.prog 16 [] [] 1 := ⟨_, _, Tryz.func16, Fc, by kernel_rfl, Ay [] Tryz.progTables (by conv => lhs; cbv) (by kernel_rfl)⟩
def Ko : Ir Tryz.prog 48 [] [] 3 := ⟨_, _, Tryz.func48, Fc, by kernel_rfl, Ay [] Tryz.progTables (by conv => lhs; cbv) (by kernel_rfl)⟩
def I0 : Ir Tryz.prog 79 [] [] 1 := ⟨_, _, Tryz.func79, Fc, by kernel_rfl, Ay [] Tryz.progTables (by conv => lhs; cbv) (by kernel_rfl)⟩
def DD : Ir Tryz.prog 78 [] [] 2 := ⟨_, _, Tryz.func78, Fc, by kernel_rfl, Ay [] Tryz.progTables (by conv => lhs; cbv) (by kernel_rfl)⟩
def D9 : Ir Tryz.prog 98 [] [] 2 := ⟨_, _, Tryz.func98, Fc, by kernel_rfl, Ay [] Tryz.progTables (by conv => lhs; cbv) (by kernel_rfl)⟩
end Go.Proofs.YteeiaaogmjbcjaaGreat
set_option linter.unusedVariables false
set_option linter.unusedSimpArgs false
set_option maxRecDepth 100000
namespace Go.Proofs.YteeiaaogmjbcjaaGreat
open Go.RowKit Go.Proofs.YteeiaaogmjbcjaaGreat.Av Go.Proofs.YteeiaaogmjbcjaaGreat.Ml
open Go.Proofs.YteeiaaogmjbcjaaGreat.Av.AVal (av)

def LF (k : Int) : Bool := !decide (k = 0) && !decide (k = 1)
theorem ZQ (k : Int) : AG Tryz.prog 79 [.int .i64 k] (.bool (LF k)) := by
 refine I0.F rfl (by simp; exact Ea _) (Aj.bool _) ?_
 simp +contextual -dsimp only [↓SD, SU, simprocAttr, I0]
 (repeat' (first | intro _ | refine And.intro ?_ ?_))
 all_goals (simp [LF, *]; done)

theorem Nc (l : List Int) (hl : l.length ≤ 1099511627776) :
  AG Tryz.prog 98 [.sl (l.map av), .fn 79 []] (.int .i64 (indexOf l LF)) := by
 refine D9.F rfl (by simp; exact ⟨Aw l, Aj.fn (by simp)⟩) (Aj.int _ _) ?_
 simp +contextual -dsimp only [↓SD, SU, simprocAttr, D9]
 refine AF (X := Nat) (fun k => ⟨[(0, .sl (l.map av)), (1, .fn 79 []), (7, .int .i64 l.length), (8, .int .i64 k)], []⟩) (fun k => k ≤ l.length ∧ (l.take k).all (fun x => !LF x) = true) (fun k => l.length - k) 0 ⟨Nat.zero_le _, rfl⟩ (by simp +contextual -dsimp only [↓SD, SU, simprocAttr, Aa]) trivial ?_
 intro k ⟨hk, hpk⟩
 by_cases hlt : k < l.length
 ·have e := getD_map (av (α := Int)) l k .top hlt
  simp +contextual -dsimp only [↓SD, SU, simprocAttr, Aa, e, Af, hlt]
  refine Ae _ (ZQ l[k]) ?_
  simp +contextual -dsimp only [↓SD, SU, simprocAttr]
  refine ⟨fun h1 => by rw [GK hlt hpk h1], fun h1 => ⟨by omega, ?_⟩⟩
  exact Ah.le ⟨k + 1, ⟨⟨hlt, by rw [Gk _ hlt hpk, h1]; rfl⟩, (by first | omega | (simp only; omega))⟩, rfl⟩ (by simp +contextual -dsimp only [↓SD, SU, simprocAttr, Int.natCast_add]) trivial
 ·obtain rfl : k = l.length := by omega
  rw [List.take_length] at hpk
  simp +contextual -dsimp only [↓SD, SU, simprocAttr, Aa, Nat.lt_irrefl, E8 hpk]

theorem KT (l : List Int) (hl : l.length ≤ 1099511627776) :
  AG Tryz.prog 78 [.sl (l.map av), .fn 79 []] (.bool (l.any LF)) := by
 refine DD.F rfl (by simp; exact ⟨Aw l, Aj.fn (by simp)⟩) (Aj.bool _) ?_
 simp +contextual -dsimp only [↓SD, SU, simprocAttr, DD]
 refine Ae _ (Nc l hl) ?_
 simp +contextual -dsimp only [↓SD, SU, simprocAttr, He]

end Go.Proofs.YteeiaaogmjbcjaaGreat
set_option linter.unusedVariables false
set_option linter.unusedSimpArgs false
set_option maxRecDepth 100000
namespace Go.Proofs.YteeiaaogmjbcjaaGreat
open Go.RowKit Go.Proofs.YteeiaaogmjbcjaaGreat.Av Go.Proofs.YteeiaaogmjbcjaaGreat.Ml
open Go.Proofs.YteeiaaogmjbcjaaGreat.Av.AVal (av)

def Qp (a : Ask) : Bool :=
 if a.kind = 3 then decide (a.s = bs []) && !a.has && (decide (-4611686018427387903 ≤ a.n) && decide (a.n ≤ 4611686018427387903))
 else if a.kind = 6 ∨ a.kind = 5 then decide (a.s = bs []) && !a.has && decide (a.n = 0)
 else if a.kind = 4 then decide (a.n = 0) && DO a.s (if a.has then 1 else 0) true
 else false
def Iq (a : Ask) (i n : Int) : Bool :=
 if a.kind = 0 then decide (-1 ≤ a.arm) && decide (a.path.length = 0) && decide (a.n = 0) && decide (a.s = bs []) && !a.has && decide (a.yes = 0) && decide (a.no = 0)
 else !a.path.any LF && Qp a && decide (a.arm = 0) && (decide (i + 1 ≤ a.yes) && decide (a.yes ≤ n - 1)) && (decide (i + 1 ≤ a.no) && decide (a.no ≤ n - 1))

set_option maxHeartbeats 2000000 in
theorem AbB (a : Ask) (i n : Int) (hl : a.path.length ≤ 1099511627776) (hs : a.s.size ≤ 1099511627776) (h0 : 0 ≤ i) (h1 : i < n) (h2 : n ≤ 1048576) : AG Tryz.prog 48 [av a, .int .i64 i, .int .i64 n] (.bool (Iq a i n)) := by
 refine Ko.F rfl (by simp; exact ⟨AVal.clean a, Ea _, Ea _⟩) (Aj.bool _) ?_
 simp +contextual -dsimp only [↓SD, SU, simprocAttr, Ko, Hq]
 obtain ⟨arm, path, kind, n', t, has, yes, no⟩ := a
 simp only at hl hs ⊢
 have C := KT path hl
 cases hp : path.any LF
 case true =>
  rw [hp] at C
  refine Ae _ C ?_
  simp +contextual -dsimp only [↓SD, SU, simprocAttr]
  by_cases hk : kind = 0
  ·have : ¬ path = [] := fun e => by rw [e] at hp; simp at hp
   simp [Iq, hk, this]
  ·simp [Iq, hk, hp]
 case false =>
  rw [hp] at C
  refine Ae _ C ?_
  simp +contextual -dsimp only [↓SD, SU, simprocAttr, Aa]
  (repeat' (first | intro _ | refine And.intro ?_ ?_))
  all_goals first | omega | skip
  all_goals first | (refine Ae _ (Di _ _ _) ?_; simp +contextual -dsimp only [↓SD, SU, simprocAttr, *]; (repeat' (first | intro _ | refine And.intro ?_ ?_))) | (refine Ae _ (DL _ _ _ hs) ?_; simp +contextual -dsimp only [↓SD, SU, simprocAttr, *]; (repeat' (first | intro _ | refine And.intro ?_ ?_))) | skip
  all_goals first | omega | skip
  all_goals first | (refine Ae _ (Di _ _ _) ?_; simp +contextual -dsimp only [↓SD, SU, simprocAttr, *]; (repeat' (first | intro _ | refine And.intro ?_ ?_))) | (refine Ae _ (DL _ _ _ hs) ?_; simp +contextual -dsimp only [↓SD, SU, simprocAttr, *]; (repeat' (first | intro _ | refine And.intro ?_ ?_))) | skip
  all_goals first | omega | skip
  all_goals first | (refine Ae _ (Di _ _ _) ?_; simp +contextual -dsimp only [↓SD, SU, simprocAttr, *]; (repeat' (first | intro _ | refine And.intro ?_ ?_))) | (refine Ae _ (DL _ _ _ hs) ?_; simp +contextual -dsimp only [↓SD, SU, simprocAttr, *]; (repeat' (first | intro _ | refine And.intro ?_ ?_))) | skip
  all_goals first | omega | skip
  all_goals first | (simp [Iq, Qp, *]; done) | (simp_all [Iq, Qp]; done)

end Go.Proofs.YteeiaaogmjbcjaaGreat
set_option linter.unusedVariables false
set_option linter.unusedSimpArgs false
set_option maxRecDepth 100000
namespace Go.Proofs.YteeiaaogmjbcjaaGreat
open Go.RowKit Go.Proofs.YteeiaaogmjbcjaaGreat.Av Go.Proofs.YteeiaaogmjbcjaaGreat.Ml
open Go.Proofs.YteeiaaogmjbcjaaGreat.Av.AVal (av)

def I4 (l : List Ask) : Bool := allI (fun i => Iq (l.getD i default) i l.length) l.length && (decide (1 ≤ (l.length : Int)) && decide ((l.length : Int) ≤ 400))
theorem Abz {l : List Ask} {k : Nat} (h : k < l.length) (hb : Iq l[k] k l.length = false) : I4 l = false := by
 unfold I4; rw [O3 h (by rw [Be h]; exact hb)]; rfl
theorem Ra {l : List Ask} (h : ∀ k (hk : k < l.length), Iq l[k] k l.length = true) : I4 l = (decide (1 ≤ (l.length : Int)) && decide ((l.length : Int) ≤ 400)) := by
 unfold I4; rw [ZS (fun i hi => by rw [Be hi]; exact h i hi)]; rfl
theorem OY {l : List Ask} (h : I4 l = true) : (∀ k (hk : k < l.length), Iq l[k] k l.length = true) ∧ 1 ≤ l.length ∧ l.length ≤ 400 := by
 unfold I4 at h
 simp only [Bool.and_eq_true, decide_eq_true_eq, O2] at h
 exact ⟨fun k hk => by have := h.1 k hk; rwa [Be hk] at this, by omega, by omega⟩
theorem Q9 {l : List Ask} (hx : AB.bulk l ≤ 1048576) (k : Nat) (hk : k < l.length) : l[k].path.length ≤ 1048576 ∧ l[k].s.size ≤ 1048576 := by
 have h1 := GM (List.getElem_mem hk)
 have h2 : AB.bulk l[k] = AB.bulk l[k].arm + AB.bulk l[k].path + AB.bulk l[k].kind + AB.bulk l[k].n + AB.bulk l[k].s + AB.bulk l[k].has + AB.bulk l[k].yes + AB.bulk l[k].no + 1 := rfl
 have h3 := Bh l[k].path
 have h4 : AB.bulk l[k].s = l[k].s.size + 1 := rfl
 omega

theorem Kt (l : List Ask) (hx : AB.bulk l ≤ 1048576) : AG Tryz.prog 16 [.agg [.sl (l.map av)]] (.bool (I4 l)) := by
 have hl := Bh l
 refine JJ.F rfl (by simp; exact Aj.agg (by simp; exact Aw l)) (Aj.bool _) ?_
 simp +contextual -dsimp only [↓SD, SU, simprocAttr, JJ, Aa]
 refine AF (X := Nat) (fun k => ⟨[(1, .obj [.sl (l.map av)]), (6, .sl (l.map av)), (7, .int .i64 l.length), (8, .int .i64 k)], []⟩) (fun k => k ≤ l.length ∧ ∀ i (hi : i < l.length), i < k → Iq l[i] i l.length = true) (fun k => l.length - k) 0 ⟨Nat.zero_le _, fun i _ h => absurd h (by omega)⟩ (by simp +contextual -dsimp only [↓SD, SU, simprocAttr]) trivial ?_
 intro k ⟨hk, hp⟩
 by_cases hlt : k < l.length
 ·have e := getD_map av l k .top hlt
  have hb := Q9 hx k hlt
  have C := AbB l[k] k l.length (by omega) (by omega) (by omega) (by omega) (by omega)
  rw [Hq] at C
  simp +contextual -dsimp only [↓SD, SU, simprocAttr, Aa, hlt, e, Hq]
  intro v
  refine Ae _ C ?_
  simp +contextual -dsimp only [↓SD, SU, simprocAttr]
  refine ⟨fun h => by rw [Abz hlt h], fun h => ⟨by omega, Ah.le ⟨k + 1, ⟨⟨hlt, fun i hi hik => ?_⟩, (by first | omega | (simp only; omega))⟩, rfl⟩ (by simp +contextual -dsimp only [↓SD, SU, simprocAttr, Int.natCast_add]) trivial⟩⟩
  rcases Nat.lt_succ_iff_lt_or_eq.1 hik with h1 | rfl
  ·exact hp i hi h1
  ·exact h
 ·obtain rfl : k = l.length := by omega
  simp +contextual -dsimp only [↓SD, SU, simprocAttr, Aa, Nat.lt_irrefl]
  refine Ae _ (Di _ _ _) ?_
  simp +contextual -dsimp only [↓SD, SU, simprocAttr, Ra (fun i hi => hp i hi hi)]

end Go.Proofs.YteeiaaogmjbcjaaGreat
set_option linter.unusedVariables false
set_option maxRecDepth 100000
namespace Go.Proofs.YteeiaaogmjbcjaaGreat
open Go.Proofs.YteeiaaogmjbcjaaGreat.Av

theorem LB : Tryz.prog.follows .mixedOrders = true := by kernel_rfl

def JE : Ir Tryz.prog 47 [] [] 2 := ⟨_, _, Tryz.func47, LB, by kernel_rfl, Ay [] Tryz.progTables (by conv => lhs; cbv) (by kernel_rfl)⟩
def I2 : Ir Tryz.prog 15 [] [] 2 := ⟨_, _, Tryz.func15, LB, by kernel_rfl, Ay [] Tryz.progTables (by conv => lhs; cbv) (by kernel_rfl)⟩
end Go.Proofs.YteeiaaogmjbcjaaGreat
set_option linter.unusedVariables false
set_option linter.unusedSimpArgs false
set_option maxRecDepth 100000
namespace Go.Proofs.YteeiaaogmjbcjaaGreat
open Go.RowKit Go.Proofs.YteeiaaogmjbcjaaGreat.Av Go.Proofs.YteeiaaogmjbcjaaGreat.Ml
open Go.Proofs.YteeiaaogmjbcjaaGreat.Av.AVal (av)

theorem TW (l : List AY) (hk : ∀ i, i < l.length → ∀ k ∈ A5 l i, (i : Int) < k ∧ k < l.length) (hx : AB.bulk l ≤ 1048576) : ∀ (f i : Nat), i < l.length → l.length - i ≤ f → AG Tryz.prog 32 [.sl (l.map av), .int .i64 i] (av (BD (dhd l) (A5 l) f i)) := by
 intro f
 induction f with
 | zero => intro i hi hf; omega
 | succ f ih =>
  intro i hi hf
  have hl := Bh l
  have e := getD_map av l i .top hi
  have hs := (DK hx i hi).1
  have hK : A5 l i = l[i].kids := by rw [A5, Be hi]
  have hH : dhd l i = ⟨l[i].kind, l[i].n, l[i].s⟩ := by rw [dhd, Be hi]
  have hg : BD (dhd l) (A5 l) (f + 1) i = .mk ⟨l[i].kind, l[i].n, l[i].s⟩ (l[i].kids.map fun k => BD (dhd l) (A5 l) f k.toNat) := by rw [BD, hK, hH]
  have hks := hk i hi
  rw [hK] at hks
  refine Ex.F rfl (by simp; exact ⟨Aw l, Ea _⟩) (AVal.clean _) ?_
  rw [hg]
  clear hg hK hH
  generalize l[i] = n at *
  simp +contextual -dsimp only [↓SD, SU, simprocAttr, Ex, Aa, hi, e, Bm]
  intro w5 w
  refine Cm (X := Nat × Nat) (fun x => ⟨[(0, .sl (l.map av)), (6, .ptr 20 w 0 0), (22, .sl (n.kids.map av)), (23, .int .i64 n.kids.length), (24, .int .i64 x.1)], [(20, ⟨w, false, 125, 4, [.agg [.int .i64 n.kind, .int .i64 n.n, .str n.s, .row 37 x.2 x.1]]⟩), (37, ⟨x.2, false, 73, 1, ((n.kids.take x.1).map fun k => BD (dhd l) (A5 l) f k.toNat).map av⟩)]⟩) (fun x => x.1 ≤ n.kids.length) (fun x => n.kids.length - x.1) (Ah.EF 20 0 3 37 73 1 rfl rfl Nat.zero_lt_one rfl (by decide) (fun v => Ah.le ⟨(0, v), Nat.zero_le _, rfl⟩ (by simp +contextual -dsimp only [↓SD, SU, simprocAttr]) (by simp +contextual -dsimp only [↓SD, SU, simprocAttr]))) ?_
  rintro ⟨j, u⟩ hj
  simp only at hj
  by_cases hlt : j < n.kids.length
  ·have e2 := getD_map av n.kids j .top hlt
   have hkj := hks _ (List.getElem_mem hlt)
   have ht : n.kids.take (j + 1) = n.kids.take j ++ [n.kids[j]] := List.take_succ_eq_append_getElem hlt
   obtain ⟨m, hm⟩ : ∃ m : Nat, n.kids[j] = m := ⟨n.kids[j].toNat, by omega⟩
   rw [hm] at e2 hkj ht
   have C2 := ih m (by omega) (by omega)
   have hk2 : (n.kids.take j).length = j := by simp; omega
   have ht2 : List.take j (((n.kids.take j).map fun k => BD (dhd l) (A5 l) f k.toNat).map av) = ((n.kids.take j).map fun k => BD (dhd l) (A5 l) f k.toNat).map av := List.take_of_length_le (by simp; omega)
   simp +contextual -dsimp only [↓SD, SU, simprocAttr, Aa, hlt, e2, Af]
   refine Ae _ C2 ?_
   simp +contextual -dsimp only [↓SD, SU, simprocAttr, Aa, hlt, C7, E0, D6, Cg, E1, GZ, hk2, ht2]
   refine ⟨⟨by omega, by unfold maxLen; omega⟩, fun u' => ⟨by omega, Ah.le ⟨(j + 1, u'), ⟨hlt, (by first | omega | (simp only; omega))⟩, rfl⟩ (by simp +contextual -dsimp only [↓SD, SU, simprocAttr, Int.natCast_add]) (by simp +contextual -dsimp only [↓SD, SU, simprocAttr, ht, List.map_append, Int.toNat_natCast])⟩⟩
  ·obtain rfl : j = n.kids.length := by omega
   simp +contextual -dsimp only [↓SD, SU, simprocAttr, Aa, Nat.lt_irrefl, Ab, List.take_length, KY]
   rw [El, List.take_of_length_le (by simp)]

def Ij : Px → List Int → Option Px
 | t, [] => some t
 | t, p :: r => match t.kids[p.toNat]? with
  | some k => Ij k r
  | none => none
def Qh (a : Ask) (t : Px) : Bool := decide (t.hd.kind = a.kind) && decide (t.hd.n = a.n) && decide (t.hd.s = a.s) && (!decide (a.kind = 4) || (a.has == decide (0 < t.kids.length)))
def K9 (a : Ask) (d : Px) : Bool :=
 match Ij d a.path with
 | some t => Qh a t
 | none => false
theorem Zh (a : Ask) (d : Px) (hp : ∀ k ∈ a.path, 0 ≤ k) (hl : a.path.length ≤ 1048576) : AG Tryz.prog 47 [av a, av d] (.bool (K9 a d)) := by
 refine JE.F rfl (by simp; exact ⟨AVal.clean a, AVal.clean d⟩) (Aj.bool _) ?_
 obtain ⟨arm, path, kind, n, s, has, yes, no⟩ := a
 simp only at hp hl
 obtain ⟨B, hB⟩ : ∃ B, B = K9 ⟨arm, path, kind, n, s, has, yes, no⟩ d := ⟨_, rfl⟩
 have hB' : B = match Ij d path with | some t => Qh ⟨arm, path, kind, n, s, has, yes, no⟩ t | none => false := hB
 rw [← hB]
 clear hB
 simp +contextual -dsimp only [↓SD, SU, simprocAttr, JE, Hq, Aa]
 refine AF (X := Nat × Px) (fun x => ⟨[(1, av x.2), (2, .obj [.int .i64 arm, .sl (path.map av), .int .i64 kind, .int .i64 n, .str s, .bool has, .int .i64 yes, .int .i64 no]), (8, .sl (path.map av)), (9, .int .i64 path.length), (10, .int .i64 x.1)], []⟩) (fun x => x.1 ≤ path.length ∧ Ij d path = Ij x.2 (path.drop x.1)) (fun x => path.length - x.1) (0, d) ⟨Nat.zero_le _, rfl⟩ (by simp +contextual -dsimp only [↓SD, SU, simprocAttr]) trivial ?_
 rintro ⟨j, t⟩ ⟨hj, hg⟩
 dsimp only at hj hg ⊢
 rw [hg] at hB'
 rw [Abx]
 by_cases hlt : j < path.length
 ·have e2 := getD_map av path j .top hlt
  have h0 := hp _ (List.getElem_mem hlt)
  rw [List.drop_eq_getElem_cons hlt] at hg hB'
  rw [Ij] at hg hB'
  generalize path[j] = p at *
  by_cases hin : p.toNat < t.kids.length
  ·rw [List.getElem?_eq_getElem hin] at hg hB'
   have e3 := getD_map av t.kids p.toNat .top hin
   have h1 : ¬ ((t.kids.length : Int) ≤ p) := by omega
   have h2 : p < t.kids.length := by omega
   generalize t.kids[p.toNat] = k at *
   simp +contextual -dsimp only [↓SD, SU, simprocAttr, Aa, hlt, e2, Af, h1, h0, h2, e3, hin, C7]
   refine ⟨by omega, Ah.le ⟨(j + 1, k), ⟨⟨hlt, hg⟩, (by first | omega | (simp only; omega))⟩, rfl⟩ (by simp +contextual -dsimp only [↓SD, SU, simprocAttr, Int.natCast_add]) trivial⟩
  ·rw [List.getElem?_eq_none (by omega)] at hg hB'
   have h1 : (t.kids.length : Int) ≤ p := by omega
   simp +contextual -dsimp only [↓SD, SU, simprocAttr, Aa, hlt, e2, Af, h1]
   rw [hB']
 ·obtain rfl : j = path.length := by omega
  rw [List.drop_length, Ij] at hB'
  simp only at hB'
  rw [hB']
  simp +contextual -dsimp only [↓SD, SU, simprocAttr, Aa, Nat.lt_irrefl]
  (repeat' (first | intro _ | refine And.intro ?_ ?_))
  all_goals first | omega | (simp [Qh, *]; done) | trace_state
def LW (l : List Ask) (d : Px) : Nat → Nat → Int
 | 0, i => (l.getD i default).arm
 | f + 1, i => if (l.getD i default).kind = 0 then (l.getD i default).arm else LW l d f (if K9 (l.getD i default) d = true then (l.getD i default).yes.toNat else (l.getD i default).no.toNat)
theorem K5 {l : List Ask} (d : Px) (h : ∀ i (hi : i < l.length), ¬ l[i].kind = 0 → (i < l[i].yes.toNat ∧ l[i].yes.toNat < l.length) ∧ (i < l[i].no.toNat ∧ l[i].no.toNat < l.length)) : ∀ (f g i : Nat), i < l.length → l.length - i ≤ f → l.length - i ≤ g → LW l d f i = LW l d g i
 | 0, g, i, hi, hf, _ => by omega
 | f + 1, 0, i, hi, _, hg => by omega
 | f + 1, g + 1, i, hi, hf, hg => by
  rw [LW, LW, Be hi]
  by_cases h0 : l[i].kind = 0
  ·rw [if_pos h0, if_pos h0]
  ·rw [if_neg h0, if_neg h0]
   have := h i hi h0
   split
   ·exact K5 d h f g _ this.1.2 (by omega) (by omega)
   ·exact K5 d h f g _ this.2.2 (by omega) (by omega)
def UZ (l : List Ask) (d : Px) (i : Nat) : Int := LW l d l.length i
theorem ZP {l : List Ask} (d : Px) (h : ∀ i (hi : i < l.length), ¬ l[i].kind = 0 → (i < l[i].yes.toNat ∧ l[i].yes.toNat < l.length) ∧ (i < l[i].no.toNat ∧ l[i].no.toNat < l.length)) {i : Nat} (hi : i < l.length) :
  UZ l d i = if l[i].kind = 0 then l[i].arm else UZ l d (if K9 l[i] d = true then l[i].yes.toNat else l[i].no.toNat) := by
 unfold UZ
 obtain ⟨m, hm⟩ : ∃ m, l.length = m + 1 := ⟨l.length - 1, by omega⟩
 rw [hm, LW, Be hi]
 by_cases h0 : l[i].kind = 0
 ·rw [if_pos h0, if_pos h0]
 ·rw [if_neg h0, if_neg h0]
  have := h i hi h0
  split
  ·exact K5 d h m (m + 1) _ this.1.2 (by omega) (by omega)
  ·exact K5 d h m (m + 1) _ this.2.2 (by omega) (by omega)
def GP (l : List Ask) (d : List AY) : Int := if I4 l = true ∧ Ct d = true then UZ l (B4 d 0) 0 else -2
theorem YJ {l : List Ask} (hb : I4 l = true) : ∀ i (hi : i < l.length), ¬ l[i].kind = 0 → (i < l[i].yes.toNat ∧ l[i].yes.toNat < l.length) ∧ (i < l[i].no.toNat ∧ l[i].no.toNat < l.length) := fun i hi h0 => by
 have h := (OY hb).1 i hi
 unfold Iq at h
 rw [if_neg h0] at h
 simp only [Bool.and_eq_true, decide_eq_true_eq] at h
 omega
theorem Aby {l : List Ask} (hb : I4 l = true) : ∀ i (hi : i < l.length), ¬ l[i].kind = 0 → (l[i].yes = (l[i].yes.toNat : Int) ∧ l[i].no = (l[i].no.toNat : Int)) ∧ ∀ k ∈ l[i].path, 0 ≤ k := fun i hi h0 => by
 have h := (OY hb).1 i hi
 unfold Iq at h
 rw [if_neg h0] at h
 simp only [Bool.and_eq_true, decide_eq_true_eq] at h
 refine ⟨by omega, fun k hk => ?_⟩
 have hp := h.1.1.1.1
 simp only [Bool.not_eq_true', List.any_eq_false] at hp
 have := hp k hk
 simp [LF] at this
 omega
theorem Of (l : List Ask) (d : List AY) (hx : AB.bulk l ≤ 1048576) (hy : AB.bulk d ≤ 1048576) : AG Tryz.prog 15 [.agg [.sl (l.map av)], .agg [.sl (d.map av)]] (.int .i64 (GP l d)) := by
 have hl := Bh l
 refine I2.F rfl (by simp; exact ⟨Aj.agg (by simp; exact Aw l), Aj.agg (by simp; exact Aw d)⟩) (Ea _) ?_
 have C1 := Kt l hx
 have C2 := Ks d hy
 simp +contextual -dsimp only [↓SD, SU, simprocAttr, I2, Aa]
 cases hb : I4 l
 case false =>
  rw [hb] at C1
  refine Ae _ C1 ?_
  simp +contextual -dsimp only [↓SD, SU, simprocAttr]
  simp [GP, hb]
 rw [hb] at C1
 refine Ae _ C1 ?_
 simp +contextual -dsimp only [↓SD, SU, simprocAttr]
 cases hd : Ct d
 case false =>
  rw [hd] at C2
  refine Ae _ C2 ?_
  simp +contextual -dsimp only [↓SD, SU, simprocAttr]
  simp [GP, hd]
 rw [hd] at C2
 refine Ae _ C2 ?_
 have hR : GP l d = UZ l (B4 d 0) 0 := by simp [GP, hb, hd]
 rw [hR]
 have hdd := hd
 unfold Ct at hdd
 simp only [Bool.and_eq_true, decide_eq_true_eq] at hdd
 obtain ⟨⟨⟨hn1, hn2⟩, ht⟩, hall⟩ := hdd
 obtain ⟨hal, hl1, hl2⟩ := OY hb
 have CG := TW d (fun i hi k hk => D5 ht hi hk) hy d.length 0 (by omega) (by omega)
 rw [show BD (dhd d) (A5 d) d.length 0 = B4 d 0 from rfl] at CG
 simp +contextual -dsimp only [↓SD, SU, simprocAttr]
 refine Ae _ CG ?_
 simp +contextual -dsimp only [↓SD, SU, simprocAttr]
 refine AF (X := Nat) (fun i => ⟨[(2, .obj [.sl (l.map av)]), (5, av (B4 d 0)), (6, .int .i64 i)], []⟩) (fun i => i < l.length ∧ UZ l (B4 d 0) 0 = UZ l (B4 d 0) i) (fun i => l.length - i) 0 ⟨by omega, rfl⟩ (by simp +contextual -dsimp only [↓SD, SU, simprocAttr]) trivial ?_
 rintro i ⟨hi, hg⟩
 have e := getD_map av l i .top hi
 have hst := ZP (B4 d 0) (YJ hb) hi
 have hgo := YJ hb i hi
 have hna := Aby hb i hi
 obtain ⟨s1, s2⟩ := Q9 hx i hi
 rw [hg]
 clear hR
 by_cases h0 : l[i].kind = 0
 ·rw [if_pos h0] at hst
  rw [hst]
  clear hst hg hgo hna
  generalize l[i] = a at *
  simp +contextual -dsimp only [↓SD, SU, simprocAttr, Aa, hi, e, Hq, h0]
 ·rw [if_neg h0] at hst
  obtain ⟨⟨y1, y2⟩, n1, n2⟩ := hgo h0
  obtain ⟨⟨hy1, hn1'⟩, hpath⟩ := hna h0
  have CP := Zh l[i] (B4 d 0) hpath s1
  generalize l[i] = a at *
  rw [Hq] at CP
  simp +contextual -dsimp only [↓SD, SU, simprocAttr, Aa, hi, e, Hq, h0, Cg]
  refine Ae _ CP ?_
  generalize K9 a (B4 d 0) = b at *
  cases b
  ·rw [if_neg (by decide)] at hst
   simp +contextual -dsimp only [↓SD, SU, simprocAttr, Aa, hi, e, Hq]
   refine Ah.le ⟨a.no.toNat, ⟨⟨n2, hst⟩, (by first | omega | (simp only; omega))⟩, rfl⟩ (by rw [hn1']; simp +contextual -dsimp only [↓SD, SU, simprocAttr, Int.toNat_natCast]) trivial
  ·rw [if_pos rfl] at hst
   simp +contextual -dsimp only [↓SD, SU, simprocAttr, Aa, hi, e, Hq]
   refine Ah.le ⟨a.yes.toNat, ⟨⟨y2, hst⟩, (by first | omega | (simp only; omega))⟩, rfl⟩ (by rw [hy1]; simp +contextual -dsimp only [↓SD, SU, simprocAttr, Int.toNat_natCast]) trivial
end Go.Proofs.YteeiaaogmjbcjaaGreat
