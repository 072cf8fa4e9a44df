/-
 WHAT A RIGHT PROGRAM'S NODES FULFIL. Conditions: none.
-/
import Derived.Test.YtppjinmlfcokaaaGreatVJ12
import Derived.Test.YtppjinmlfcokaaaGreatVPgmW2
import Derived.Test.YtppjinmlfcokaaaGreatVJ13
import Derived.Test.YtppjinmlfcokaaaGreatVGProg
import Derived.Test.YtppjinmlfcokaaaGreatVJ10
set_option linter.unusedVariables false
set_option linter.unusedSimpArgs false
set_option maxRecDepth 100000
namespace Go.Proofs.YtppjinmlfcokaaaGreat
open Go.RowKit Go.Proofs.YtppjinmlfcokaaaGreat.Av Go.Proofs.YtppjinmlfcokaaaGreat.Ml
open Go.Proofs.YtppjinmlfcokaaaGreat.Av.AVal (av)

theorem Adb {nm : Node → Bool} {l : List Node} {n : Node} (h : AE nm l n = true) (hb : Ac.bulk n ≤ 4294967296) : PN n n.kids.length := by
 unfold AE at h
 split at h
 ·cases h
 rename_i h0
 refine ⟨fun hk => ?_, fun hk => ?_, hb⟩
 ·have ha : AO n.kind = 0 := by rw [hk]; rfl
  rw [ha] at h0
  omega
 ·simp [hk] at h
  omega
theorem Dk {p : Program} (hx : Ac.bulk p ≤ 4294967296) (hb : Bv p = true) : 1 ≤ p.nodes.length ∧ p.nodes.length ≤ 600 ∧ Fh (Aq p.nodes) p.nodes.length = true ∧ (∀ n ∈ p.nodes, PN n n.kids.length) ∧ (∀ n ∈ p.nodes, ∀ q ∈ n.Ae, q.nodes ≠ []) := by
 obtain ⟨q1, q2, q3, q4⟩ := CD hx
 simp only [Bv, GX, Bool.and_eq_true, decide_eq_true_eq, List.all_eq_true] at hb
 obtain ⟨⟨⟨⟨⟨h1, h2⟩, h3⟩, h4⟩, h5⟩, h6⟩ := hb
 refine ⟨by omega, by omega, h3, fun n hn => Adb (h4 n hn) ?_, fun n hn q hq => ?_⟩
 ·have := Au hn; omega
 ·have := h6 n hn q hq
  intro h
  rw [h] at this
  simp [Et] at this

end Go.Proofs.YtppjinmlfcokaaaGreat
set_option linter.unusedVariables false
set_option linter.unusedSimpArgs false
set_option maxRecDepth 100000
namespace Go.Proofs.YtppjinmlfcokaaaGreat
open Go.RowKit Go.Proofs.YtppjinmlfcokaaaGreat.Av Go.Proofs.YtppjinmlfcokaaaGreat.Ml
open Go.Proofs.YtppjinmlfcokaaaGreat.Av.AVal (av)

theorem Ace {s : ByteArray} (h : G2 1 s = true) : 1 ≤ s.size := by
 simp only [G2, Bool.and_eq_true, decide_eq_true_eq] at h
 omega
theorem VE {s : ByteArray} (h : EC s = true) : 1 ≤ s.size := by
 simp only [EC, Bool.and_eq_true] at h
 exact Ace h.1
theorem AfM {l : List Node} {n : Node} (h : AE BC l n = true) (hp : ∀ q ∈ n.Ae, Et q.nodes = true) : ZZ n := by
 refine ⟨fun h3 => ?_, fun q hq h0 => ?_, fun hb => ?_, fun q hq x hx hk => ?_⟩
 ·unfold AE at h
  split at h
  ·cases h
  ·rename_i h0
   cases hp2 : n.Ae with
   | nil => rfl
   | cons a r => exact absurd (.inr (.inr (.inl ⟨by omega, by rw [hp2]; exact fun e => by cases e⟩))) h0
 ·have := hp q hq
  rw [h0] at this
  simp [Et] at this
 ·unfold AE at h
  split at h
  ·cases h
  unfold Ad1 at hb
  simp only [Bool.or_eq_true, decide_eq_true_eq] at hb
  have hname : BC n = true := by
   rcases hb with ((hb | hb) | hb) | hb
   ·simpa [hb] using h
   ·simpa [hb] using h
   ·simp [hb] at h; exact h.1
   ·simpa [hb] using h
  simp only [BC, Bool.and_eq_true] at hname
  exact VE hname.1
 ·have h1 := hp q hq
  obtain ⟨i, hi, rfl⟩ := List.getElem_of_mem hx
  simp only [Et, Bool.and_eq_true] at h1
  have h2 := M9.1 h1.2 i hi
  have hg : q.nodes.getD i default = q.nodes[i] := by simp [List.getD_eq_getElem?_getD, hi]
  simp only [GN, hg, Bool.and_eq_true] at h2
  have h3 := h2.1
  have h4 : ¬ (q.nodes[i].kind = 1 ∨ q.nodes[i].kind = 6) := by omega
  rw [Er, if_neg h4, if_pos hk] at h3
  simp only [Bool.and_eq_true] at h3
  exact VE h3.2
theorem AfD {p : Program} (hb : Bv p = true) : ∀ n ∈ p.nodes, ZZ n := fun n hn => by
 simp only [Bv, GX, Bool.and_eq_true, decide_eq_true_eq, List.all_eq_true] at hb
 obtain ⟨⟨⟨⟨⟨h1, h2⟩, h3⟩, h4⟩, h5⟩, h6⟩ := hb
 exact AfM (h4 n hn) (h6 n hn)
theorem Fv {p : Program} (hx : Ac.bulk p ≤ 4294967296) (hb : Bv p = true) : (Al p.nodes 0).ok ∧ (Al p.nodes 0).all ZZ ∧ (Al p.nodes 0).pne ∧ (Al p.nodes 0).size ≤ 600 ∧ (Al p.nodes 0).bulk + 1 = Ac.bulk p.nodes ∧ (Al p.nodes 0).wt ≤ 3000000000 := by
 obtain ⟨f1, f2, f3, f4, f5⟩ := Dk hx hb
 have hk : ∀ i, i < p.nodes.length → ∀ k ∈ Aq p.nodes i, (i : Int) < k ∧ k < p.nodes.length := fun i hi k hk => Ef f3 hi hk
 have h1 := Rg hk f4 p.nodes.length 0 (by omega) (by omega)
 have h2 := O1 hk (AfD hb) p.nodes.length 0 (by omega) (by omega)
 have h3 := Ui f3 (i := 0) (by omega)
 have h4 := AbI (Al p.nodes 0) 0
 rw [PZ f3] at h4
 have h5 := Aeh (Al p.nodes 0)
 have h6 := (CD hx).2.1
 exact ⟨h1, h2, AfE _ h2, by omega, by omega, by omega⟩
end Go.Proofs.YtppjinmlfcokaaaGreat
namespace Go.Proofs.YtppjinmlfcokaaaGreat
open Go.RowKit Go.Proofs.YtppjinmlfcokaaaGreat.Av Go.Proofs.YtppjinmlfcokaaaGreat.Ml
open Go.Proofs.YtppjinmlfcokaaaGreat.Av.AVal (av)

def zpN (n : Node) : Node := { n with pos := 0 }
end Go.Proofs.YtppjinmlfcokaaaGreat
set_option linter.unusedVariables false
set_option linter.unusedSimpArgs false
set_option maxRecDepth 100000
namespace Go.Proofs.YtppjinmlfcokaaaGreat
open Go.RowKit Go.Proofs.YtppjinmlfcokaaaGreat.Av Go.Proofs.YtppjinmlfcokaaaGreat.Ml
open Go.Proofs.YtppjinmlfcokaaaGreat.Av.AVal (av)

def eqF {α : Type} (p : α → α → Bool) : List α → List α → Bool
 | [], [] => true
 | a :: l, b :: m => p a b && eqF p l m
 | _, _ => false
theorem K9 {α : Type} {p : α → α → Bool} : ∀ {l m : List α}, l.length ≠ m.length → eqF p l m = false
 | [], [], h => absurd rfl h
 | [], b :: m, _ => rfl
 | a :: l, [], _ => rfl
 | a :: l, b :: m, h => by rw [eqF, K9 (fun e => h (by simp [e])), Bool.and_false]
theorem KO {α : Type} {p : α → α → Bool} (l m : List α) (k : Nat) (h : k < l.length) (h2 : k < m.length) : eqF p (l.drop k) (m.drop k) = (p l[k] m[k] && eqF p (l.drop (k + 1)) (m.drop (k + 1))) := by
 rw [List.drop_eq_getElem_cons h, List.drop_eq_getElem_cons h2, eqF]
theorem TW {α β : Type} [DecidableEq β] {p : α → α → Bool} {f : α → β} (hp : ∀ x y, p x y = decide (f x = f y)) : ∀ l m : List α, eqF p l m = decide (l.map f = m.map f)
 | [], [] => by simp [eqF]
 | [], b :: m => by simp [eqF]
 | a :: l, [] => by simp [eqF]
 | a :: l, b :: m => by rw [eqF, hp, TW hp l m]; simp [Bool.decide_and]
theorem TV {α : Type} [DecidableEq α] (l m : List α) : eqF (fun x y => decide (x = y)) l m = decide (l = m) := by
 have h := TW (f := id) (p := fun x y : α => decide (x = y)) (fun _ _ => rfl) l m
 rwa [List.map_id, List.map_id] at h
theorem Ox (l m : List Int) (hl : l.length ≤ 4503599627370496) (hm : m.length ≤ 4503599627370496) : Ah Tryz.prog 113 [.sl (l.map av), .sl (m.map av)] (.bool (decide (l = m))) := by
 refine D0.F rfl (by simp; exact ⟨Ak l, Ak m⟩) (Ad.bool _) ?_
 by_cases hne2 : l.length = m.length
 ·simp +contextual -dsimp (maxSteps := 2000000) only [↓SD, SU, simprocAttr, D0, Ab, hne2]
  refine Am (X := Nat) (fun k => ⟨[(0, .sl (l.map av)), (1, .sl (m.map av)), (12, .int .i64 m.length), (13, .int .i64 k)], []⟩) (fun k => k ≤ l.length ∧ l.take k = m.take k) (fun k => l.length - k) 0 ⟨Nat.zero_le _, rfl⟩ (by simp +contextual -dsimp only [↓SD, SU, simprocAttr]) trivial ?_
  intro k ⟨hk, hp⟩
  by_cases hlt : k < l.length
  ·have e1 := getD_map av l k .top hlt
   have hlt2 : k < m.length := by omega
   have e2 := getD_map av m k .top hlt2
   have hst : l[k] = m[k] → l.take (k + 1) = m.take (k + 1) := fun e => by rw [List.take_succ_eq_append_getElem hlt, List.take_succ_eq_append_getElem hlt2, hp, e]
   have hno : l[k] ≠ m[k] → decide (l = m) = false := fun e => decide_eq_false fun h => e (by simp only [h])
   generalize l[k] = a at *
   generalize m[k] = b at *
   by_cases hab : a = b
   ·subst hab
    simp +contextual -dsimp (maxSteps := 2000000) only [↓SD, SU, simprocAttr, Ab, hlt, hlt2, e1, e2, AA]
    exact ⟨by omega, Af.le ⟨k + 1, ⟨⟨hlt, hst rfl⟩, (by first | omega | (simp only; omega))⟩, rfl⟩ (by simp +contextual -dsimp only [↓SD, SU, simprocAttr, Int.natCast_add]) trivial⟩
   ·simp +contextual -dsimp (maxSteps := 2000000) only [↓SD, SU, simprocAttr, Ab, hlt, hlt2, e1, e2, AA, hab, hno hab]
  ·obtain rfl : k = l.length := by omega
   rw [List.take_length, hne2, List.take_length] at hp
   simp +contextual -dsimp (maxSteps := 2000000) only [↓SD, SU, simprocAttr, Ab, hne2, Nat.lt_irrefl, hp, decide_true]
 ·have hne3 : decide (l = m) = false := decide_eq_false fun h => hne2 (by rw [h])
  simp +contextual -dsimp (maxSteps := 2000000) only [↓SD, SU, simprocAttr, D0, Ab, hne2, hne3]
theorem Nh (l m : List Node) (g : FuncId) (p : Node → Node → Bool) (hl : l.length ≤ 1099511627776) (hm : m.length ≤ 1099511627776) (hg : ∀ x ∈ l, ∀ y ∈ m, Ah Tryz.prog g [av x, av y] (.bool (p x y))) :
  Ah Tryz.prog 111 [.sl (l.map av), .sl (m.map av), .fn g []] (.bool (eqF p l m)) := by
 refine Bf.F rfl (by simp; exact ⟨Ak l, Ak m, Ad.fn (by simp)⟩) (Ad.bool _) ?_
 by_cases hne2 : l.length = m.length
 ·simp +contextual -dsimp (maxSteps := 2000000) only [↓SD, SU, simprocAttr, Bf, Ab, hne2, List.map_nil]
  refine Am (X := Nat) (fun k => ⟨[(1, .sl (m.map av)), (2, .fn g []), (15, .sl (l.map av)), (16, .int .i64 m.length), (17, .int .i64 k)], []⟩) (fun k => k ≤ l.length ∧ eqF p l m = eqF p (l.drop k) (m.drop k)) (fun k => l.length - k) 0 ⟨Nat.zero_le _, rfl⟩ (by simp +contextual -dsimp only [↓SD, SU, simprocAttr, List.map_nil]) trivial ?_
  intro k ⟨hk, hp⟩
  by_cases hlt : k < l.length
  ·have e1 := getD_map av l k .top hlt
   have hlt2 : k < m.length := by omega
   have e2 := getD_map av m k .top hlt2
   have C := hg l[k] (List.getElem_mem hlt) m[k] (List.getElem_mem hlt2)
   rw [KO l m k hlt hlt2] at hp
   generalize l[k] = a at *
   generalize m[k] = b at *
   rw [As] at e1 e2
   rw [As, As] at C
   simp +contextual -dsimp (maxSteps := 2000000) only [↓SD, SU, simprocAttr, Ab, hlt, hlt2, e1, e2, As, List.map_nil, List.append_nil]
   intro u w
   refine Aa _ C ?_
   cases hb : p a b with
   | true =>
    rw [hb, Bool.true_and] at hp
    simp +contextual -dsimp (maxSteps := 2000000) only [↓SD, SU, simprocAttr, List.map_nil]
    exact ⟨by omega, Af.le ⟨k + 1, ⟨⟨hlt, hp⟩, (by first | omega | (simp only; omega))⟩, rfl⟩ (by simp +contextual -dsimp only [↓SD, SU, simprocAttr, Int.natCast_add, List.map_nil]) trivial⟩
   | false =>
    rw [hb, Bool.false_and] at hp
    simp +contextual -dsimp (maxSteps := 2000000) only [↓SD, SU, simprocAttr, hp, List.map_nil]
  ·obtain rfl : k = l.length := by omega
   rw [List.drop_length, hne2, List.drop_length] at hp
   simp +contextual -dsimp (maxSteps := 2000000) only [↓SD, SU, simprocAttr, Ab, hne2, Nat.lt_irrefl, hp, eqF]
 ·have hne3 : eqF p l m = false := K9 (by omega)
  simp +contextual -dsimp (maxSteps := 2000000) only [↓SD, SU, simprocAttr, Bf, Ab, hne2, hne3]
theorem NK (l m : List Pat) (g : FuncId) (p : Pat → Pat → Bool) (hl : l.length ≤ 1099511627776) (hm : m.length ≤ 1099511627776) (hg : ∀ x ∈ l, ∀ y ∈ m, Ah Tryz.prog g [av x, av y] (.bool (p x y))) :
  Ah Tryz.prog 114 [.sl (l.map av), .sl (m.map av), .fn g []] (.bool (eqF p l m)) := by
 refine Bm.F rfl (by simp; exact ⟨Ak l, Ak m, Ad.fn (by simp)⟩) (Ad.bool _) ?_
 by_cases hne2 : l.length = m.length
 ·simp +contextual -dsimp (maxSteps := 2000000) only [↓SD, SU, simprocAttr, Bm, Ab, hne2, List.map_nil]
  refine Am (X := Nat) (fun k => ⟨[(1, .sl (m.map av)), (2, .fn g []), (15, .sl (l.map av)), (16, .int .i64 m.length), (17, .int .i64 k)], []⟩) (fun k => k ≤ l.length ∧ eqF p l m = eqF p (l.drop k) (m.drop k)) (fun k => l.length - k) 0 ⟨Nat.zero_le _, rfl⟩ (by simp +contextual -dsimp only [↓SD, SU, simprocAttr, List.map_nil]) trivial ?_
  intro k ⟨hk, hp⟩
  by_cases hlt : k < l.length
  ·have e1 := getD_map av l k .top hlt
   have hlt2 : k < m.length := by omega
   have e2 := getD_map av m k .top hlt2
   have C := hg l[k] (List.getElem_mem hlt) m[k] (List.getElem_mem hlt2)
   rw [KO l m k hlt hlt2] at hp
   generalize l[k] = a at *
   generalize m[k] = b at *
   rw [B7] at e1 e2
   rw [B7, B7] at C
   simp +contextual -dsimp (maxSteps := 2000000) only [↓SD, SU, simprocAttr, Ab, hlt, hlt2, e1, e2, B7, List.map_nil, List.append_nil]
   intro u w
   refine Aa _ C ?_
   cases hb : p a b with
   | true =>
    rw [hb, Bool.true_and] at hp
    simp +contextual -dsimp (maxSteps := 2000000) only [↓SD, SU, simprocAttr, List.map_nil]
    exact ⟨by omega, Af.le ⟨k + 1, ⟨⟨hlt, hp⟩, (by first | omega | (simp only; omega))⟩, rfl⟩ (by simp +contextual -dsimp only [↓SD, SU, simprocAttr, Int.natCast_add, List.map_nil]) trivial⟩
   | false =>
    rw [hb, Bool.false_and] at hp
    simp +contextual -dsimp (maxSteps := 2000000) only [↓SD, SU, simprocAttr, hp, List.map_nil]
  ·obtain rfl : k = l.length := by omega
   rw [List.drop_length, hne2, List.drop_length] at hp
   simp +contextual -dsimp (maxSteps := 2000000) only [↓SD, SU, simprocAttr, Ab, hne2, Nat.lt_irrefl, hp, eqF]
 ·have hne3 : eqF p l m = false := K9 (by omega)
  simp +contextual -dsimp (maxSteps := 2000000) only [↓SD, SU, simprocAttr, Bm, Ab, hne2, hne3]
theorem L5 (l m : List Bg) (g : FuncId) (p : Bg → Bg → Bool) (hl : l.length ≤ 1099511627776) (hm : m.length ≤ 1099511627776) (hg : ∀ x ∈ l, ∀ y ∈ m, Ah Tryz.prog g [av x, av y] (.bool (p x y))) :
  Ah Tryz.prog 161 [.sl (l.map av), .sl (m.map av), .fn g []] (.bool (eqF p l m)) := by
 refine A8.F rfl (by simp; exact ⟨Ak l, Ak m, Ad.fn (by simp)⟩) (Ad.bool _) ?_
 by_cases hne2 : l.length = m.length
 ·simp +contextual -dsimp (maxSteps := 2000000) only [↓SD, SU, simprocAttr, A8, Ab, hne2, List.map_nil]
  refine Am (X := Nat) (fun k => ⟨[(1, .sl (m.map av)), (2, .fn g []), (15, .sl (l.map av)), (16, .int .i64 m.length), (17, .int .i64 k)], []⟩) (fun k => k ≤ l.length ∧ eqF p l m = eqF p (l.drop k) (m.drop k)) (fun k => l.length - k) 0 ⟨Nat.zero_le _, rfl⟩ (by simp +contextual -dsimp only [↓SD, SU, simprocAttr, List.map_nil]) trivial ?_
  intro k ⟨hk, hp⟩
  by_cases hlt : k < l.length
  ·have e1 := getD_map av l k .top hlt
   have hlt2 : k < m.length := by omega
   have e2 := getD_map av m k .top hlt2
   have C := hg l[k] (List.getElem_mem hlt) m[k] (List.getElem_mem hlt2)
   rw [KO l m k hlt hlt2] at hp
   generalize l[k] = a at *
   generalize m[k] = b at *
   rw [AU] at e1 e2
   rw [AU, AU] at C
   simp +contextual -dsimp (maxSteps := 2000000) only [↓SD, SU, simprocAttr, Ab, hlt, hlt2, e1, e2, AU, List.map_nil, List.append_nil]
   intro u w
   refine Aa _ C ?_
   cases hb : p a b with
   | true =>
    rw [hb, Bool.true_and] at hp
    simp +contextual -dsimp (maxSteps := 2000000) only [↓SD, SU, simprocAttr, List.map_nil]
    exact ⟨by omega, Af.le ⟨k + 1, ⟨⟨hlt, hp⟩, (by first | omega | (simp only; omega))⟩, rfl⟩ (by simp +contextual -dsimp only [↓SD, SU, simprocAttr, Int.natCast_add, List.map_nil]) trivial⟩
   | false =>
    rw [hb, Bool.false_and] at hp
    simp +contextual -dsimp (maxSteps := 2000000) only [↓SD, SU, simprocAttr, hp, List.map_nil]
  ·obtain rfl : k = l.length := by omega
   rw [List.drop_length, hne2, List.drop_length] at hp
   simp +contextual -dsimp (maxSteps := 2000000) only [↓SD, SU, simprocAttr, Ab, hne2, Nat.lt_irrefl, hp, eqF]
 ·have hne3 : eqF p l m = false := K9 (by omega)
  simp +contextual -dsimp (maxSteps := 2000000) only [↓SD, SU, simprocAttr, A8, Ab, hne2, hne3]
theorem UT (x y : Bg) (hx : x.kids.length ≤ 1099511627776) (hy : y.kids.length ≤ 1099511627776) : Ah Tryz.prog 162 [av x, av y] (.bool (decide (x = y))) := by
 refine Ik.F rfl (by simp; exact ⟨AVal.clean x, AVal.clean y⟩) (Ad.bool _) ?_
 have C := Ox x.kids y.kids (by omega) (by omega)
 obtain ⟨a, b, c, d⟩ := x
 obtain ⟨a', b', c', d'⟩ := y
 simp only at C
 simp +contextual -dsimp (maxSteps := 2000000) only [↓SD, SU, simprocAttr, Ik, AU]
 by_cases h1 : a = a'
 ·by_cases h2 : b = b'
  ·by_cases h3 : c = c'
   ·subst h1 h2 h3
    simp +contextual -dsimp (maxSteps := 2000000) only [↓SD, SU, simprocAttr]
    refine Aa _ C ?_
    simp +contextual -dsimp (maxSteps := 2000000) only [↓SD, SU, simprocAttr]
    simp
   ·simp +contextual -dsimp (maxSteps := 2000000) only [↓SD, SU, simprocAttr, h1, h2, h3]
    simp [h3]
  ·simp +contextual -dsimp (maxSteps := 2000000) only [↓SD, SU, simprocAttr, h1, h2]
   simp [h2]
 ·simp +contextual -dsimp (maxSteps := 2000000) only [↓SD, SU, simprocAttr, h1]
  simp [h1]
theorem XP (x y : Pat) (hx : Ac.bulk x ≤ 4294967296) (hy : Ac.bulk y ≤ 4294967296) : Ah Tryz.prog 115 [av x, av y] (.bool (decide (x = y))) := by
 refine JR.F rfl (by simp; exact ⟨AVal.clean x, AVal.clean y⟩) (Ad.bool _) ?_
 obtain ⟨l⟩ := x
 obtain ⟨m⟩ := y
 have hxb : Ac.bulk l + 1 ≤ 4294967296 := hx
 have hyb : Ac.bulk m + 1 ≤ 4294967296 := hy
 have hl := Ai l
 have hm := Ai m
 have hk : ∀ {l : List Bg}, Ac.bulk l ≤ 4294967296 → ∀ x ∈ l, x.kids.length ≤ 1099511627776 := fun {l} h x hx => by
  have h1 := Au hx
  have h2 : Ac.bulk x = Ac.bulk x.kind + Ac.bulk x.n + (x.s.size + 1) + Ac.bulk x.kids + 1 := rfl
  have h3 := Ai x.kids
  omega
 have C := L5 l m 162 (fun x y => decide (x = y)) (by omega) (by omega) fun x hx y hy => UT x y (hk (by omega) x hx) (hk (by omega) y hy)
 rw [TV] at C
 simp +contextual -dsimp (maxSteps := 2000000) only [↓SD, SU, simprocAttr, JR, B7]
 refine Aa _ C ?_
 simp +contextual -dsimp (maxSteps := 2000000) only [↓SD, SU, simprocAttr]
 simp
theorem QZ (x y : Node) (hx : Ac.bulk x ≤ 4294967296) (hy : Ac.bulk y ≤ 4294967296) : Ah Tryz.prog 112 [av x, av y] (.bool (decide (zpN x = zpN y))) := by
 refine G7.F rfl (by simp; exact ⟨AVal.clean x, AVal.clean y⟩) (Ad.bool _) ?_
 have hb : ∀ {x : Node}, Ac.bulk x ≤ 4294967296 → x.kids.length ≤ 1099511627776 ∧ x.Ae.length ≤ 1099511627776 ∧ ∀ q ∈ x.Ae, Ac.bulk q ≤ 4294967296 := fun {x} h => by
  have h2 : Ac.bulk x = Ac.bulk x.kind + Ac.bulk x.pos + Ac.bulk x.n + Ac.bulk x.s + Ac.bulk x.kids + Ac.bulk x.Ae + 1 := rfl
  have h3 := Ai x.kids
  have h4 := Ai x.Ae
  exact ⟨by omega, by omega, fun q hq => by have := Au hq; omega⟩
 have C := Ox x.kids y.kids (by have := hb hx; omega) (by have := hb hy; omega)
 have D := NK x.Ae y.Ae 115 (fun x y => decide (x = y)) (hb hx).2.1 (hb hy).2.1 fun p hp q hq => XP p q ((hb hx).2.2 p hp) ((hb hy).2.2 q hq)
 rw [TV] at D
 clear hb hx hy
 obtain ⟨a, p, b, c, d, e⟩ := x
 obtain ⟨a', p', b', c', d', e'⟩ := y
 simp only at C D
 simp +contextual -dsimp (maxSteps := 2000000) only [↓SD, SU, simprocAttr, G7, As]
 by_cases h1 : a = a'
 ·by_cases h2 : b = b'
  ·by_cases h3 : c = c'
   ·subst h1 h2 h3
    simp +contextual -dsimp (maxSteps := 2000000) only [↓SD, SU, simprocAttr, List.map_nil]
    refine Aa _ C ?_
    by_cases h4 : d = d'
    ·subst h4
     simp +contextual -dsimp (maxSteps := 2000000) only [↓SD, SU, simprocAttr, List.map_nil]
     refine Aa _ D ?_
     simp +contextual -dsimp (maxSteps := 2000000) only [↓SD, SU, simprocAttr]
     simp [zpN]
    ·simp +contextual -dsimp (maxSteps := 2000000) only [↓SD, SU, simprocAttr, h4]
     simp [zpN, h4]
   ·simp +contextual -dsimp (maxSteps := 2000000) only [↓SD, SU, simprocAttr, h1, h2, h3]
    simp [zpN, h3]
  ·simp +contextual -dsimp (maxSteps := 2000000) only [↓SD, SU, simprocAttr, h1, h2]
   simp [zpN, h2]
 ·simp +contextual -dsimp (maxSteps := 2000000) only [↓SD, SU, simprocAttr, h1]
  simp [zpN, h1]
theorem Ts (l m : List Node) (hx : Ac.bulk l ≤ 4294967296) (hy : Ac.bulk m ≤ 4294967296) : Ah Tryz.prog 54 [.sl (l.map av), .sl (m.map av)] (.bool (decide (l.map zpN = m.map zpN))) := by
 refine Il.F rfl (by simp; exact ⟨Ak l, Ak m⟩) (Ad.bool _) ?_
 have hl := Ai l
 have hm := Ai m
 have C := Nh l m 112 (fun x y => decide (zpN x = zpN y)) (by omega) (by omega) fun x hx' y hy' => QZ x y (by have := Au hx'; omega) (by have := Au hy'; omega)
 rw [TW (f := zpN) (fun x y => rfl)] at C
 simp +contextual -dsimp (maxSteps := 2000000) only [↓SD, SU, simprocAttr, Il]
 refine Aa _ C ?_
 simp +contextual -dsimp (maxSteps := 2000000) only [↓SD, SU, simprocAttr]
end Go.Proofs.YtppjinmlfcokaaaGreat
