/-
  THE ABSTRACT TEXTS OF FUNCTIONS (EqT), printed by irgen.py, and that they are the functions' own. Conditions: none.
-/
import Derived.Test.YtppjinmlfcokaaaGreatProg
import Derived.Test.YtppjinmlfcokaaaGreatVAvDraw
import Derived.Test.YtppjinmlfcokaaaGreatVJ17
import Derived.Test.YtppjinmlfcokaaaGreatVJ07
set_option linter.unusedVariables false
set_option maxRecDepth 100000
namespace Go.Proofs.YtppjinmlfcokaaaGreat
open Go.Proofs.YtppjinmlfcokaaaGreat.Av

theorem FJ : Tryz.prog.follows .mixedOrders = true := by kernel_rfl

def Be : Ir Tryz.prog 106 [] [] 3 := ⟨_, _, Tryz.func106, FJ, by kernel_rfl, Aj [] Tryz.progTables (by conv => lhs; cbv) (by kernel_rfl)⟩
def Bo : Ir Tryz.prog 108 [] [] 3 := ⟨_, _, Tryz.func108, FJ, by kernel_rfl, Aj [] Tryz.progTables (by conv => lhs; cbv) (by kernel_rfl)⟩
def BX : Ir Tryz.prog 110 [] [] 2 := ⟨_, _, Tryz.func110, FJ, by kernel_rfl, Aj [] Tryz.progTables (by conv => lhs; cbv) (by kernel_rfl)⟩
def Ij : Ir Tryz.prog 53 [] [] 2 := ⟨_, _, Tryz.func53, FJ, by kernel_rfl, Aj [] Tryz.progTables (by conv => lhs; cbv) (by kernel_rfl)⟩
def G6 : Ir Tryz.prog 107 [] [] 2 := ⟨_, _, Tryz.func107, FJ, by kernel_rfl, Aj [] Tryz.progTables (by conv => lhs; cbv) (by kernel_rfl)⟩
def Gh : Ir Tryz.prog 109 [] [] 2 := ⟨_, _, Tryz.func109, FJ, by kernel_rfl, Aj [] Tryz.progTables (by conv => lhs; cbv) (by kernel_rfl)⟩
end Go.Proofs.YtppjinmlfcokaaaGreat
set_option linter.unusedVariables false
set_option linter.unusedSimpArgs false
set_option maxRecDepth 100000
namespace Go.Proofs.YtppjinmlfcokaaaGreat
open Go.RowKit Go.Proofs.YtppjinmlfcokaaaGreat.Av Go.Proofs.YtppjinmlfcokaaaGreat.Ml
open Go.Proofs.YtppjinmlfcokaaaGreat.Av.AVal (av)

theorem L4 (l m : List BF) (g : FuncId) (p : BF → BF → Bool) (hl : l.length ≤ 1099511627776) (hm : m.length ≤ 1099511627776) (hg : ∀ x ∈ l, ∀ y ∈ m, Ah Tryz.prog g [av x, av y] (.bool (p x y))) :
  Ah Tryz.prog 106 [.sl (l.map av), .sl (m.map av), .fn g []] (.bool (eqF p l m)) := by
 refine Be.F rfl (by simp; exact ⟨Ak l, Ak m, Ad.fn (by simp)⟩) (Ad.bool _) ?_
 by_cases hne2 : l.length = m.length
 ·simp +contextual -dsimp (maxSteps := 2000000) only [↓SD, SU, simprocAttr, Be, Ab, hne2, List.map_nil]
  refine Am (X := Nat) (fun k => ⟨[(1, .sl (m.map av)), (2, .fn g []), (15, .sl (l.map av)), (16, .int .i64 m.length), (17, .int .i64 k)], []⟩) (fun k => k ≤ l.length ∧ eqF p l m = eqF p (l.drop k) (m.drop k)) (fun k => l.length - k) 0 ⟨Nat.zero_le _, rfl⟩ (by simp +contextual -dsimp only [↓SD, SU, simprocAttr, List.map_nil]) trivial ?_
  intro k ⟨hk, hp⟩
  by_cases hlt : k < l.length
  ·have e1 := getD_map av l k .top hlt
   have hlt2 : k < m.length := by omega
   have e2 := getD_map av m k .top hlt2
   have C := hg l[k] (List.getElem_mem hlt) m[k] (List.getElem_mem hlt2)
   rw [KO l m k hlt hlt2] at hp
   generalize l[k] = a at *
   generalize m[k] = b at *
   rw [BE] at e1 e2
   rw [BE, BE] at C
   simp +contextual -dsimp (maxSteps := 2000000) only [↓SD, SU, simprocAttr, Ab, hlt, hlt2, e1, e2, BE, List.map_nil, List.append_nil]
   intro u w
   refine Aa _ C ?_
   cases hb : p a b with
   | true =>
    rw [hb, Bool.true_and] at hp
    simp +contextual -dsimp (maxSteps := 2000000) only [↓SD, SU, simprocAttr, List.map_nil]
    exact ⟨by omega, Af.le ⟨k + 1, ⟨⟨hlt, hp⟩, (by first | omega | (simp only; omega))⟩, rfl⟩ (by simp +contextual -dsimp only [↓SD, SU, simprocAttr, Int.natCast_add, List.map_nil]) trivial⟩
   | false =>
    rw [hb, Bool.false_and] at hp
    simp +contextual -dsimp (maxSteps := 2000000) only [↓SD, SU, simprocAttr, hp, List.map_nil]
  ·obtain rfl : k = l.length := by omega
   rw [List.drop_length, hne2, List.drop_length] at hp
   simp +contextual -dsimp (maxSteps := 2000000) only [↓SD, SU, simprocAttr, Ab, hne2, Nat.lt_irrefl, hp, eqF]
 ·have hne3 : eqF p l m = false := K9 (by omega)
  simp +contextual -dsimp (maxSteps := 2000000) only [↓SD, SU, simprocAttr, Be, Ab, hne2, hne3]
theorem NL (l m : List Con) (g : FuncId) (p : Con → Con → Bool) (hl : l.length ≤ 1099511627776) (hm : m.length ≤ 1099511627776) (hg : ∀ x ∈ l, ∀ y ∈ m, Ah Tryz.prog g [av x, av y] (.bool (p x y))) :
  Ah Tryz.prog 108 [.sl (l.map av), .sl (m.map av), .fn g []] (.bool (eqF p l m)) := by
 refine Bo.F rfl (by simp; exact ⟨Ak l, Ak m, Ad.fn (by simp)⟩) (Ad.bool _) ?_
 by_cases hne2 : l.length = m.length
 ·simp +contextual -dsimp (maxSteps := 2000000) only [↓SD, SU, simprocAttr, Bo, Ab, hne2, List.map_nil]
  refine Am (X := Nat) (fun k => ⟨[(1, .sl (m.map av)), (2, .fn g []), (15, .sl (l.map av)), (16, .int .i64 m.length), (17, .int .i64 k)], []⟩) (fun k => k ≤ l.length ∧ eqF p l m = eqF p (l.drop k) (m.drop k)) (fun k => l.length - k) 0 ⟨Nat.zero_le _, rfl⟩ (by simp +contextual -dsimp only [↓SD, SU, simprocAttr, List.map_nil]) trivial ?_
  intro k ⟨hk, hp⟩
  by_cases hlt : k < l.length
  ·have e1 := getD_map av l k .top hlt
   have hlt2 : k < m.length := by omega
   have e2 := getD_map av m k .top hlt2
   have C := hg l[k] (List.getElem_mem hlt) m[k] (List.getElem_mem hlt2)
   rw [KO l m k hlt hlt2] at hp
   generalize l[k] = a at *
   generalize m[k] = b at *
   rw [Ck] at e1 e2
   rw [Ck, Ck] at C
   simp +contextual -dsimp (maxSteps := 2000000) only [↓SD, SU, simprocAttr, Ab, hlt, hlt2, e1, e2, Ck, List.map_nil, List.append_nil]
   intro u w
   refine Aa _ C ?_
   cases hb : p a b with
   | true =>
    rw [hb, Bool.true_and] at hp
    simp +contextual -dsimp (maxSteps := 2000000) only [↓SD, SU, simprocAttr, List.map_nil]
    exact ⟨by omega, Af.le ⟨k + 1, ⟨⟨hlt, hp⟩, (by first | omega | (simp only; omega))⟩, rfl⟩ (by simp +contextual -dsimp only [↓SD, SU, simprocAttr, Int.natCast_add, List.map_nil]) trivial⟩
   | false =>
    rw [hb, Bool.false_and] at hp
    simp +contextual -dsimp (maxSteps := 2000000) only [↓SD, SU, simprocAttr, hp, List.map_nil]
  ·obtain rfl : k = l.length := by omega
   rw [List.drop_length, hne2, List.drop_length] at hp
   simp +contextual -dsimp (maxSteps := 2000000) only [↓SD, SU, simprocAttr, Ab, hne2, Nat.lt_irrefl, hp, eqF]
 ·have hne3 : eqF p l m = false := K9 (by omega)
  simp +contextual -dsimp (maxSteps := 2000000) only [↓SD, SU, simprocAttr, Bo, Ab, hne2, hne3]
theorem T9 (l m : List AY) (hl : l.length ≤ 4503599627370496) (hm : m.length ≤ 4503599627370496) : Ah Tryz.prog 110 [.sl (l.map av), .sl (m.map av)] (.bool (decide (l = m))) := by
 refine BX.F rfl (by simp; exact ⟨Ak l, Ak m⟩) (Ad.bool _) ?_
 by_cases hne2 : l.length = m.length
 ·simp +contextual -dsimp (maxSteps := 2000000) only [↓SD, SU, simprocAttr, BX, Ab, hne2]
  refine Am (X := Nat) (fun k => ⟨[(0, .sl (l.map av)), (1, .sl (m.map av)), (12, .int .i64 m.length), (13, .int .i64 k)], []⟩) (fun k => k ≤ l.length ∧ l.take k = m.take k) (fun k => l.length - k) 0 ⟨Nat.zero_le _, rfl⟩ (by simp +contextual -dsimp only [↓SD, SU, simprocAttr]) trivial ?_
  intro k ⟨hk, hp⟩
  by_cases hlt : k < l.length
  ·have e1 := getD_map av l k .top hlt
   have hlt2 : k < m.length := by omega
   have e2 := getD_map av m k .top hlt2
   have hst : l[k] = m[k] → l.take (k + 1) = m.take (k + 1) := fun e => by rw [List.take_succ_eq_append_getElem hlt, List.take_succ_eq_append_getElem hlt2, hp, e]
   have hno : l[k] ≠ m[k] → decide (l = m) = false := fun e => decide_eq_false fun h => e (by simp only [h])
   generalize l[k] = a at *
   generalize m[k] = b at *
   obtain ⟨a0, a1, a2⟩ := a
   obtain ⟨b0, b1, b2⟩ := b
   simp only [AY.mk.injEq, ne_eq] at hst hno
   rw [A5] at e1 e2
   simp only at e1 e2
   by_cases h0 : a0 = b0
   ·by_cases h1 : a1 = b1
    ·by_cases h2 : a2 = b2
     ·subst h0 h1 h2
      simp +contextual -dsimp (maxSteps := 2000000) only [↓SD, SU, simprocAttr, Ab, hlt, hlt2, e1, e2]
      exact ⟨by omega, Af.le ⟨k + 1, ⟨⟨hlt, hst ⟨rfl, rfl, rfl⟩⟩, (by first | omega | (simp only; omega))⟩, rfl⟩ (by simp +contextual -dsimp only [↓SD, SU, simprocAttr, Int.natCast_add]) trivial⟩
     ·have hs := hno (fun h => h2 h.2.2)
      simp +contextual -dsimp (maxSteps := 2000000) only [↓SD, SU, simprocAttr, Ab, hlt, hlt2, e1, e2, h0, h1, h2, hs]
    ·have hs := hno (fun h => h1 h.2.1)
     simp +contextual -dsimp (maxSteps := 2000000) only [↓SD, SU, simprocAttr, Ab, hlt, hlt2, e1, e2, h0, h1, hs]
   ·have hs := hno (fun h => h0 h.1)
    simp +contextual -dsimp (maxSteps := 2000000) only [↓SD, SU, simprocAttr, Ab, hlt, hlt2, e1, e2, h0, hs]
  ·obtain rfl : k = l.length := by omega
   rw [List.take_length, hne2, List.take_length] at hp
   simp +contextual -dsimp (maxSteps := 2000000) only [↓SD, SU, simprocAttr, Ab, hne2, Nat.lt_irrefl, hp, decide_true]
 ·have hne3 : decide (l = m) = false := decide_eq_false fun h => hne2 (by rw [h])
  simp +contextual -dsimp (maxSteps := 2000000) only [↓SD, SU, simprocAttr, BX, Ab, hne2, hne3]
theorem Pm (x y : Con) (hx : Ac.bulk x ≤ 4294967296) (hy : Ac.bulk y ≤ 4294967296) : Ah Tryz.prog 109 [av x, av y] (.bool (decide (x = y))) := by
 refine Gh.F rfl (by simp; exact ⟨AVal.clean x, AVal.clean y⟩) (Ad.bool _) ?_
 have hb : ∀ {x : Con}, Ac.bulk x ≤ 4294967296 → x.arg.items.length ≤ 4294967296 := fun {x} h => by
  have h2 : Ac.bulk x = Ac.bulk x.name + Ac.bulk x.has + Ac.bulk x.arg + 1 := rfl
  have h3 : Ac.bulk x.arg = Ac.bulk x.arg.items + 1 := rfl
  have h4 := Ai x.arg.items
  omega
 have C := T9 x.arg.items y.arg.items (by have := hb hx; omega) (by have := hb hy; omega)
 clear hb hx hy
 obtain ⟨a, b, ⟨c⟩⟩ := x
 obtain ⟨a', b', ⟨c'⟩⟩ := y
 simp only at C
 simp +contextual -dsimp (maxSteps := 2000000) only [↓SD, SU, simprocAttr, Gh, Ck, SV]
 by_cases h1 : a = a'
 ·cases b <;> cases b'
  ·subst h1
   simp +contextual -dsimp (maxSteps := 2000000) only [↓SD, SU, simprocAttr, beq_self_eq_true]
   refine Aa _ C ?_
   simp +contextual -dsimp (maxSteps := 2000000) only [↓SD, SU, simprocAttr]
   simp
  ·simp +contextual -dsimp (maxSteps := 2000000) only [↓SD, SU, simprocAttr, h1]
   simp
  ·simp +contextual -dsimp (maxSteps := 2000000) only [↓SD, SU, simprocAttr, h1]
   simp
  ·subst h1
   simp +contextual -dsimp (maxSteps := 2000000) only [↓SD, SU, simprocAttr, beq_self_eq_true]
   refine Aa _ C ?_
   simp +contextual -dsimp (maxSteps := 2000000) only [↓SD, SU, simprocAttr]
   simp
 ·simp +contextual -dsimp (maxSteps := 2000000) only [↓SD, SU, simprocAttr, h1]
  simp [h1]
theorem QX (x y : BF) (hx : Ac.bulk x ≤ 4294967296) (hy : Ac.bulk y ≤ 4294967296) : Ah Tryz.prog 107 [av x, av y] (.bool (decide (x = y))) := by
 refine G6.F rfl (by simp; exact ⟨AVal.clean x, AVal.clean y⟩) (Ad.bool _) ?_
 have hb : ∀ {x : BF}, Ac.bulk x ≤ 4294967296 → x.cons.length ≤ 4294967296 ∧ ∀ c ∈ x.cons, Ac.bulk c ≤ 4294967296 := fun {x} h => by
  have h2 : Ac.bulk x = Ac.bulk x.name + Ac.bulk x.params + Ac.bulk x.cons + 1 := rfl
  have h4 := Ai x.cons
  exact ⟨by omega, fun c hc => by have := Au hc; omega⟩
 have C := NL x.cons y.cons 109 (fun x y => decide (x = y)) (by have := (hb hx).1; omega) (by have := (hb hy).1; omega) fun p hp q hq => Pm p q ((hb hx).2 p hp) ((hb hy).2 q hq)
 rw [TV] at C
 clear hb hx hy
 obtain ⟨a, b, c⟩ := x
 obtain ⟨a', b', c'⟩ := y
 simp only at C
 simp +contextual -dsimp (maxSteps := 2000000) only [↓SD, SU, simprocAttr, G6, BE]
 by_cases h1 : a = a'
 ·by_cases h2 : b = b'
  ·subst h1 h2
   simp +contextual -dsimp (maxSteps := 2000000) only [↓SD, SU, simprocAttr, List.map_nil]
   refine Aa _ C ?_
   simp +contextual -dsimp (maxSteps := 2000000) only [↓SD, SU, simprocAttr]
   simp
  ·simp +contextual -dsimp (maxSteps := 2000000) only [↓SD, SU, simprocAttr, h1, h2]
   simp [h2]
 ·simp +contextual -dsimp (maxSteps := 2000000) only [↓SD, SU, simprocAttr, h1]
  simp [h1]
theorem Tp (l m : List BF) (hx : Ac.bulk l ≤ 4294967296) (hy : Ac.bulk m ≤ 4294967296) : Ah Tryz.prog 53 [.sl (l.map av), .sl (m.map av)] (.bool (decide (l = m))) := by
 refine Ij.F rfl (by simp; exact ⟨Ak l, Ak m⟩) (Ad.bool _) ?_
 have hl := Ai l
 have hm := Ai m
 have C := L4 l m 107 (fun x y => decide (x = y)) (by omega) (by omega) fun x hx' y hy' => QX x y (by have := Au hx'; omega) (by have := Au hy'; omega)
 rw [TV] at C
 simp +contextual -dsimp (maxSteps := 2000000) only [↓SD, SU, simprocAttr, Ij]
 refine Aa _ C ?_
 simp +contextual -dsimp (maxSteps := 2000000) only [↓SD, SU, simprocAttr]
end Go.Proofs.YtppjinmlfcokaaaGreat
set_option linter.unusedVariables false
set_option linter.unusedSimpArgs false
namespace Go.Proofs.YtppjinmlfcokaaaGreat.Av
open Go.RowKit
open AVal (av)

def sub (nm i : Nat) : Nat := 10000 * (2 ^ i * (2 * nm + 1))
theorem AeP : ∀ (i j a b : Nat), 2 ^ i * (2 * a + 1) = 2 ^ j * (2 * b + 1) → i = j ∧ a = b := by
 intro i
 induction i with
 | zero =>
  intro j a b h
  cases j with
  | zero => simp at h; exact ⟨rfl, by omega⟩
  | succ j =>
   rw [Nat.pow_succ, Nat.mul_comm (2 ^ j) 2, Nat.mul_assoc] at h
   generalize 2 ^ j * (2 * b + 1) = q at h
   simp at h; omega
 | succ i ih =>
  intro j a b h
  cases j with
  | zero =>
   rw [Nat.pow_succ, Nat.mul_comm (2 ^ i) 2, Nat.mul_assoc] at h
   generalize 2 ^ i * (2 * a + 1) = q at h
   simp at h; omega
  | succ j =>
   rw [Nat.pow_succ, Nat.mul_comm (2 ^ i) 2, Nat.mul_assoc, Nat.pow_succ, Nat.mul_comm (2 ^ j) 2, Nat.mul_assoc] at h
   obtain ⟨h1, h2⟩ := ih j a b (by omega)
   exact ⟨by omega, h2⟩
theorem ER {a b i j : Nat} (h : sub a i = sub b j) : a = b ∧ i = j := by
 unfold sub at h
 have := AeP i j a b (by omega)
 exact ⟨this.2, this.1⟩
theorem YZ (nm i : Nat) : 10000 * (2 * nm + 1) ≤ sub nm i := by
 unfold sub
 have h : 1 ≤ 2 ^ i := Nat.one_le_two_pow
 exact Nat.mul_le_mul_left _ (Nat.le_trans (by omega) (Nat.mul_le_mul_right (2 * nm + 1) h))
theorem Eu (nm i : Nat) : nm < sub nm i := by have := YZ nm i; omega
theorem Cm (nm i : Nat) : 10000 ≤ sub nm i := by have := YZ nm i; omega

inductive InT (nm : Nat) : Nat → Prop
 | root : InT nm nm
 | sub {p : Nat} (i : Nat) (h : InT nm p) : InT nm (sub p i)
theorem InT.le {nm k : Nat} (h : InT nm k) : nm ≤ k := by
 induction h with
 | root => exact Nat.le_refl _
 | sub i _ ih => exact Nat.le_trans ih (Nat.le_of_lt (Eu _ _))
theorem InT.up {nm i k : Nat} (h : InT (Av.sub nm i) k) : InT nm k := by
 induction h with
 | root => exact .sub i .root
 | sub j _ ih => exact .sub j ih
theorem InT.ne {nm i k : Nat} (h : InT (Av.sub nm i) k) : k ≠ nm := by
 have := h.le; have := Eu nm i; omega
theorem InT.ge {nm i k : Nat} (h : InT (Av.sub nm i) k) : 10000 ≤ k := Nat.le_trans (Cm nm i) h.le
theorem InT.sib {nm i j k : Nat} (h : InT (Av.sub nm i) k) : InT (Av.sub nm j) k → i = j := by
 induction h with
 | root =>
  intro h'
  generalize hk : Av.sub nm i = k at h'
  cases h' with
  | root => exact (ER hk).2
  | sub q h' => have := (ER hk).1; subst this; exact absurd rfl h'.ne
 | sub q h ih =>
  rename_i p
  intro h'
  generalize hk : Av.sub p q = k at h'
  cases h' with
  | root => have := (ER hk).1; subst this; exact absurd rfl h.ne
  | sub q' h' => have := (ER hk).1; subst this; exact ih h'
theorem InT.apart {a b k : Nat} (ha : a < 10000) (hb : b < 10000) (h : InT a k) : InT b k → a = b := by
 induction h with
 | root =>
  intro h'
  cases h' with
  | root => rfl
  | sub q _ => rename_i p _; have := Cm p q; omega
 | sub q h ih =>
  rename_i p
  intro h'
  generalize hk : Av.sub p q = k at h'
  cases h' with
  | root => have := Cm p q; omega
  | sub q' h' => have := (ER hk).1; subst this; exact ih h'
theorem InT.small {a k : Nat} (h : InT a k) (hk : k < 10000) : k = a := by
 cases h with
 | root => rfl
 | sub i h => rename_i p; have := Cm p i; omega

/-! ### heaps, name by name -/
theorem Ys : ∀ {hp : Hp} {k : Nat} {b : Box}, Ao hp k = some b → (k, b) ∈ hp
 | (j, c) :: r, k, b, h => by
  simp only [Ao] at h
  split at h
  ·rename_i e; subst e; cases h; exact List.mem_cons_self
  ·exact List.mem_cons_of_mem _ (Ys h)
theorem TM : ∀ {hp : Hp} {k : Nat}, (∀ p ∈ hp, p.1 ≠ k) → Ao hp k = none
 | [], _, _ => rfl
 | (j, c) :: r, k, h => by
  simp only [Ao]
  rw [if_neg (h (j, c) List.mem_cons_self)]
  exact TM fun p hp => h p (List.mem_cons_of_mem _ hp)
theorem Qe : ∀ (a b : Hp) (k : Nat), Ao (a ++ b) k = (Ao a k).orElse fun _ => Ao b k
 | [], b, k => rfl
 | (j, c) :: r, b, k => by
  simp only [List.cons_append, Ao]
  split
  ·rfl
  ·exact Qe r b k
theorem Qd {a b : Hp} {k : Nat} {x : Box} (h : Ao a k = some x) : Ao (a ++ b) k = some x := by rw [Qe, h]; rfl
theorem Cx {a b : Hp} {k : Nat} (h : ∀ p ∈ a, p.1 ≠ k) : Ao (a ++ b) k = Ao b k := by rw [Qe, TM h]; rfl
theorem BL {j k : Nat} {b : Box} {r : Hp} (h : j ≠ k) : Ao ((j, b) :: r) k = Ao r k := by simp only [Ao]; rw [if_neg h]
theorem BH {k : Nat} {b : Box} {r : Hp} : Ao ((k, b) :: r) k = some b := by simp [Ao]
theorem AL {s : Hp} : ∀ {t : Hp}, AR s t ↔ ∀ p ∈ t, Ao s p.1 = some p.2
 | [] => ⟨fun _ p hp => (by cases hp), fun _ => trivial⟩
 | (k, b) :: r => by
  rw [I6, AL (t := r)]
  exact ⟨fun h p hp => (List.mem_cons.1 hp).elim (fun e => by subst e; exact h.1) (h.2 p), fun h => ⟨h _ List.mem_cons_self, fun p hp => h p (List.mem_cons_of_mem _ hp)⟩⟩
theorem AF {s a b : Hp} : AR s (a ++ b) ↔ AR s a ∧ AR s b := by
 simp only [AL, List.mem_append]
 exact ⟨fun h => ⟨fun p hp => h p (.inl hp), fun p hp => h p (.inr hp)⟩, fun h p hp => hp.elim (h.1 p) (h.2 p)⟩
theorem Cj {s a b : Hp} (h : AR a s) : AR (a ++ b) s := AL.2 fun p hp => Qd (AL.1 h p hp)
theorem Aan {hp : Hp} : ∀ {hp0 : Hp}, AR hp hp0 → Jo (hp0.map Prod.fst) hp = hp0
 | [], _ => rfl
 | (k, b) :: r, h => by
  rw [I6] at h
  rw [List.map_cons, Nv, h.1, LP, Aan h.2]
theorem contains_iff {l : List Nat} {k : Nat} : l.contains k = true ↔ k ∈ l := by simp
theorem BT {hs : List Nat} {hp : Hp} {k : Nat} (h : k ∉ hs) : Ao (Ci hs hp) k = Ao hp k := by
 rw [K6, if_neg (fun c => h (contains_iff.1 c))]
theorem Jp {hp : Hp} {k j : Nat} (h : j ≠ k) : Ao (Gs hp j) k = Ao hp k := by
 unfold Gs
 split
 ·exact BL h
 ·rfl
theorem BJ : ∀ {ks : List Nat} {hp : Hp} {k : Nat}, k ∉ ks → Ao (BZ ks hp) k = Ao hp k
 | [], _, _, _ => rfl
 | j :: r, hp, k, h => by
  rw [EX, BJ (ks := r) (fun x => h (List.mem_cons_of_mem _ x)), Jp (fun e => h (by rw [e]; exact List.mem_cons_self))]
theorem D5 : ∀ (a b : List Nat) (hp : Hp), BZ (a ++ b) hp = BZ b (BZ a hp)
 | [], _, _ => rfl
 | j :: r, b, hp => by rw [List.cons_append, EX, EX, D5 r b]

/-! ### plain values in rows of their own -/
class OVal (α : Type) [AVal α] where
 ty : TypeId
 ov : Nat → (Nat → Nat) → α → AV
 oh : Nat → (Nat → Nat) → α → Hp
 on : Nat → α → List Nat
 names : ∀ nm vs y, (oh nm vs y).map Prod.fst = on nm y
 inn : ∀ nm y k, k ∈ on nm y → InT nm k
 self : ∀ nm vs y, AR (oh nm vs y) (oh nm vs y)
 FN : ∀ nm vs vs' y, (∀ k, InT nm k → vs k = vs' k) → ov nm vs y = ov nm vs' y ∧ oh nm vs y = oh nm vs' y
 HW : ∀ nm vs y hp, AR hp (oh nm vs y) → (ov nm vs y).pur (BZ (on nm y) hp) = av y
 dep : ∀ nm vs y hp hp', (∀ k, InT nm k → Ao hp k = Ao hp' k) → (ov nm vs y).pur hp = (ov nm vs y).pur hp'
 free : ∀ nm vs y, ∀ p ∈ oh nm vs y, p.2.frz = false ∧ ∀ e ∈ p.2.es, ∀ x ∈ e.cells, x.GS = true
 J2 : ∀ nm vs y, ∀ x ∈ (ov nm vs y).cells, x.GS = true
 ok : ∀ nm vs y, (ov nm vs y).ok = true
 agg : ∀ nm vs y, (ov nm vs y).isAgg = (av y).isAgg
 len : ∀ nm vs y, (ov nm vs y).cells.length = AVal.n α
open OVal (ov oh on)
theorem OVal.inh {α : Type} [AVal α] [OVal α] {nm : Nat} {vs : Nat → Nat} {y : α} {p : Nat × Box} (h : p ∈ oh nm vs y) : InT nm p.1 :=
 OVal.inn nm y p.1 (by rw [← OVal.names nm vs y]; exact List.mem_map_of_mem h)
theorem Lh {α : Type} [AVal α] [OVal α] {nm k : Nat} {vs : Nat → Nat} {y : α} (h : ¬ InT nm k) : ∀ p ∈ oh nm vs y, p.1 ≠ k := fun p hp e => h (e ▸ OVal.inh hp)
theorem Gm {α : Type} [AVal α] [OVal α] {nm k : Nat} {y : α} (h : ¬ InT nm k) : k ∉ on nm y := fun e => h (OVal.inn nm y k e)
@[reducible] def Yv {α : Type} [AVal α] (ty : TypeId) (h : ∀ (y : α), ∀ x ∈ (av y).cells, x.GS = true) : OVal α :=
 ⟨ty, fun _ _ x => av x, fun _ _ _ => [], fun _ _ => [], fun _ _ _ => rfl, fun _ _ _ h => (by cases h), fun _ _ _ => trivial, fun _ _ _ _ _ => ⟨rfl, rfl⟩, fun _ _ y hp _ => AVal.nop y _, fun _ _ y _ _ _ => (AVal.nop y _).trans (AVal.nop y _).symm, fun _ _ _ p h => (by cases h), fun _ _ y x hx => h y x hx, fun _ _ y => AVal.ok y, fun _ _ _ => rfl, fun _ _ y => AVal.len y⟩
instance : OVal Int := Yv 3 (fun y x hx => by rw [AA] at hx; simp [AV.cells] at hx; subst hx; rfl)
instance : OVal ByteArray := Yv 9 (fun y x hx => by rw [Ce] at hx; simp [AV.cells] at hx; subst hx; rfl)
theorem Lg {a b : Hp} (ha : AR a a) (hb : AR b b) (h : ∀ p ∈ b, ∀ q ∈ a, q.1 ≠ p.1) : AR (a ++ b) (a ++ b) := by
 rw [AF]
 exact ⟨Cj ha, AL.2 fun p hp => by rw [Cx (h p hp)]; exact AL.1 hb p hp⟩
theorem I5 {s t : Hp} {ks : List Nat} (h : ∀ p ∈ t, p.1 ∉ ks) (hs : AR s t) : AR (BZ ks s) t := AL.2 fun p hp => by rw [BJ (h p hp)]; exact AL.1 hs p hp

section
variable {α : Type} [AVal α] [OVal α]
def ovL (nm : Nat) (vs : Nat → Nat) : Nat → List α → List AV
 | _, [] => []
 | i, e :: r => ov (sub nm i) vs e :: ovL nm vs (i + 1) r
def ohL (nm : Nat) (vs : Nat → Nat) : Nat → List α → Hp
 | _, [] => []
 | i, e :: r => oh (sub nm i) vs e ++ ohL nm vs (i + 1) r
def onL (nm : Nat) : Nat → List α → List Nat
 | _, [] => []
 | i, e :: r => on (sub nm i) e ++ onL nm (i + 1) r
theorem Dp (nm : Nat) (vs : Nat → Nat) : ∀ (i : Nat) (l : List α), (ovL nm vs i l).length = l.length
 | _, [] => rfl
 | i, e :: r => by simp [ovL, Dp nm vs (i + 1) r]
theorem GO (nm : Nat) (vs : Nat → Nat) : ∀ (i : Nat) (l : List α) (j : Nat), (ovL nm vs i l)[j]? = (l[j]?).map (ov (sub nm (i + j)) vs)
 | _, [], j => by simp [ovL]
 | i, e :: r, 0 => by simp [ovL]
 | i, e :: r, j + 1 => by
  simp only [ovL, List.getElem?_cons_succ]
  rw [GO nm vs (i + 1) r j, show i + 1 + j = i + (j + 1) by omega]
theorem Ji (nm : Nat) (vs : Nat → Nat) (l : List α) {j : Nat} (h : j < l.length) (d : AV) : (ovL nm vs 0 l).getD j d = ov (sub nm j) vs l[j] := by
 rw [List.getD_eq_getElem?_getD, GO, List.getElem?_eq_getElem h]; simp
theorem AeJ {nm : Nat} {vs : Nat → Nat} {i : Nat} {l : List α} {x : AV} (h : x ∈ ovL nm vs i l) : ∃ (j : Nat) (e : α), x = ov (sub nm j) vs e := by
 obtain ⟨j, hj⟩ := List.getElem?_of_mem h
 rw [GO, Option.map_eq_some_iff] at hj
 obtain ⟨e, _, rfl⟩ := hj
 exact ⟨_, e, rfl⟩
theorem AeI (nm : Nat) (vs : Nat → Nat) (l : List α) (j : Nat) (e : α) : ovL nm vs 0 (l.set j e) = (ovL nm vs 0 l).set j (ov (sub nm j) vs e) := by
 apply List.ext_getElem?
 intro q
 rw [GO, List.getElem?_set, List.getElem?_set, GO, Dp]
 by_cases h : j = q
 ·subst h
  by_cases hl : j < l.length <;> simp [hl]
 ·simp [h]
theorem H7 {nm : Nat} {vs : Nat → Nat} : ∀ {i : Nat} {l : List α} {p : Nat × Box}, p ∈ ohL nm vs i l → ∃ j, ∃ hj : j < l.length, p ∈ oh (sub nm (i + j)) vs l[j]
 | i, e :: r, p, h => by
  simp only [ohL, List.mem_append] at h
  rcases h with h | h
  ·exact ⟨0, by simp, by simpa using h⟩
  ·obtain ⟨j, hj, h⟩ := H7 h
   exact ⟨j + 1, by simpa using hj, by rw [show i + (j + 1) = i + 1 + j by omega]; simpa using h⟩
theorem OT {nm : Nat} {vs : Nat → Nat} : ∀ {i : Nat} {l : List α} {p : Nat × Box} (j : Nat) (hj : j < l.length), p ∈ oh (sub nm (i + j)) vs l[j] → p ∈ ohL nm vs i l
 | i, e :: r, p, 0, hj, h => by simp only [ohL, List.mem_append]; exact .inl (by simpa using h)
 | i, e :: r, p, j + 1, hj, h => by
  simp only [ohL, List.mem_append]
  exact .inr (OT j (by simpa using hj) (by rw [show i + (j + 1) = i + 1 + j by omega] at h; simpa using h))
theorem DY {nm : Nat} {vs : Nat → Nat} {i : Nat} {l : List α} {p : Nat × Box} (h : p ∈ ohL nm vs i l) : ∃ j, i ≤ j ∧ InT (sub nm j) p.1 := by
 obtain ⟨j, _, h⟩ := H7 h
 exact ⟨i + j, by omega, OVal.inh h⟩
theorem Tz {nm : Nat} : ∀ {i : Nat} {l : List α} {k : Nat}, k ∈ onL nm i l → ∃ j, i ≤ j ∧ InT (sub nm j) k
 | i, e :: r, k, h => by
  simp only [onL, List.mem_append] at h
  rcases h with h | h
  ·exact ⟨i, Nat.le_refl _, OVal.inn _ _ _ h⟩
  ·obtain ⟨j, hj, h⟩ := Tz h
   exact ⟨j, by omega, h⟩
theorem R1 (nm : Nat) (vs : Nat → Nat) : ∀ (i : Nat) (l : List α), (ohL nm vs i l).map Prod.fst = onL nm i l
 | _, [] => rfl
 | i, e :: r => by simp only [ohL, onL, List.map_append, OVal.names, R1 nm vs (i + 1) r]
theorem Dc (nm : Nat) (vs : Nat → Nat) : ∀ (i : Nat) (l : List α), AR (ohL nm vs i l) (ohL nm vs i l)
 | _, [] => trivial
 | i, e :: r => by
  simp only [ohL]
  rw [AF]
  refine ⟨Cj (OVal.self _ _ _), AL.2 fun p hp => ?_⟩
  obtain ⟨j, hj, h⟩ := DY hp
  rw [Cx (Lh fun h' => by have := h'.sib h; omega)]
  exact AL.1 (Dc nm vs (i + 1) r) p hp
theorem Vq (nm : Nat) (vs vs' : Nat → Nat) (h : ∀ k, InT nm k → vs k = vs' k) : ∀ (i : Nat) (l : List α), ovL nm vs i l = ovL nm vs' i l ∧ ohL nm vs i l = ohL nm vs' i l
 | _, [] => ⟨rfl, rfl⟩
 | i, e :: r => by
  obtain ⟨a, b⟩ := Vq nm vs vs' h (i + 1) r
  obtain ⟨c, d⟩ := OVal.FN (sub nm i) vs vs' e (fun k hk => h k hk.up)
  simp only [ovL, ohL, a, b, c, d, and_self]
theorem Vs (nm : Nat) (vs : Nat → Nat) : ∀ (i : Nat) (l : List α) (hp : Hp), AR hp (ohL nm vs i l) → (ovL nm vs i l).map (AV.pur (BZ (onL nm i l) hp)) = l.map av
 | _, [], _, _ => rfl
 | i, e :: r, hp, h => by
  simp only [ohL, AF] at h
  simp only [ovL, onL, List.map_cons, D5]
  have h1 := OVal.HW (sub nm i) vs e hp h.1
  have h2 := Vs nm vs (i + 1) r (BZ (on (sub nm i) e) hp) (AL.2 fun p hp' => by
   obtain ⟨j, hj, hi⟩ := DY hp'
   rw [BJ (Gm fun h' => by have := h'.sib hi; omega)]
   exact AL.1 h.2 p hp')
  rw [h2, ← h1]
  congr 1
  refine OVal.dep _ _ _ _ _ fun k hk => BJ fun hm => ?_
  obtain ⟨j, hj, hi⟩ := Tz hm
  have := hk.sib hi
  omega
theorem AcU {nm : Nat} {vs : Nat → Nat} {i : Nat} {l : List α} : ∀ e ∈ ovL nm vs i l, ∀ x ∈ e.cells, x.GS = true := fun e he x hx => by
 obtain ⟨j, y, rfl⟩ := AeJ he
 exact OVal.J2 _ _ _ x hx
end

section
variable {α : Type} [AVal α] [OVal α]
def Gg (nm : Nat) (vs : Nat → Nat) (l : List α) : Box := ⟨vs nm, false, OVal.ty α, AVal.n α, ovL nm vs 0 l⟩
instance : OVal (List α) where
 ty := 0
 ov nm vs l := .row nm (vs nm) l.length
 oh nm vs l := ohL nm vs 0 l ++ [(nm, Gg nm vs l)]
 on nm l := onL nm 0 l ++ [nm]
 names nm vs l := by simp [R1]
 inn nm l k h := by
  rcases List.mem_append.1 h with h | h
  ·obtain ⟨j, _, h⟩ := Tz h; exact h.up
  ·simp at h; subst h; exact .root
 self nm vs l := by
  rw [AF]
  refine ⟨Cj (Dc _ _ _ _), AL.2 fun p hp => ?_⟩
  simp at hp; subst hp
  rw [Cx (fun p hp e => by obtain ⟨j, _, h⟩ := DY hp; exact h.ne e)]
  exact BH
 FN nm vs vs' l h := by
  obtain ⟨a, b⟩ := Vq nm vs vs' h 0 l
  simp only [Gg, a, b, h nm .root, and_self]
 HW nm vs l hp h := by
  rw [AF] at h
  have h1 := Vs nm vs 0 l hp h.1
  have h2 : Ao hp nm = some (Gg nm vs l) := AL.1 h.2 (nm, _) List.mem_cons_self
  have h3 : Ao (BZ (onL nm 0 l) hp) nm = some (Gg nm vs l) := by
   rw [BJ (fun hm => by obtain ⟨j, _, h⟩ := Tz hm; exact h.ne rfl)]; exact h2
  rw [D5, EX, I7]
  simp only [AV.pur, AV.B5, Gs, h3, BH, Gg, h1]
  rw [if_pos (by simp), List.take_of_length_le (by simp)]
  rfl
 dep nm vs l hp hp' h := by simp only [AV.pur, AV.B5, h nm .root]
 free nm vs l p hp := by
  rcases List.mem_append.1 hp with h | h
  ·obtain ⟨j, hj, h⟩ := H7 h; exact OVal.free _ _ _ p h
  ·simp at h; subst h; exact ⟨rfl, AcU⟩
 J2 nm vs l x hx := by simp [AV.cells] at hx; subst hx; rfl
 ok _ _ _ := rfl
 agg _ _ _ := rfl
 len _ _ _ := rfl
theorem DJ (nm : Nat) (vs : Nat → Nat) (l : List α) : ov nm vs l = .row nm (vs nm) l.length := eqq rfl
theorem Cn (nm : Nat) (vs : Nat → Nat) (l : List α) : oh nm vs l = ohL nm vs 0 l ++ [(nm, Gg nm vs l)] := eqq rfl
end
theorem Nw {α : Type} [AVal α] [OVal α] {K k : Nat} {vs : Nat → Nat} {y y' : α} {hp : Hp} (h : ¬ InT K k) : Ao (oh K vs y' ++ Ci (on K y) hp) k = Ao hp k := by
 rw [Cx (Lh h), BT (Gm h)]
theorem AbQ {α β : Type} [AVal α] [OVal α] [AVal β] [OVal β] {K K' : Nat} {vs vs' : Nat → Nat} {y y' : α} {z : β} {hp : Hp} (h : ∀ k, InT K' k → ¬ InT K k) (hz : AR hp (oh K' vs' z)) : AR (oh K vs y' ++ Ci (on K y) hp) (oh K' vs' z) :=
 AL.2 fun p hp' => by rw [Nw (h _ (OVal.inh hp'))]; exact AL.1 hz p hp'
theorem CM {β : Type} [AVal β] [OVal β] {K' j : Nat} {b : Box} {vs' : Nat → Nat} {z : β} {hp : Hp} (h : ¬ InT K' j) (hz : AR hp (oh K' vs' z)) : AR ((j, b) :: hp) (oh K' vs' z) :=
 AL.2 fun p hp' => by rw [BL (fun e : j = p.1 => h (by rw [e]; exact OVal.inh hp'))]; exact AL.1 hz p hp'
theorem Cu {q nm i : Nat} (hq : q < 10000) : (q == sub nm i) = false := beq_eq_false_iff_ne.2 fun e => by have := Cm nm i; omega
theorem AdA {β : Type} [AVal β] [OVal β] {nm i j : Nat} {b : Box} {vs : Nat → Nat} {z : β} {hp : Hp} (hz : AR hp (oh (sub nm i) vs z)) (hj : j < 10000) : AR ((j, b) :: hp) (oh (sub nm i) vs z) :=
 CM (fun h => by have := h.ge; omega) hz
theorem GF {α : Type} [AVal α] [OVal α] {nm : Nat} {vs : Nat → Nat} {y : α} {hp : Hp} (h : AR hp (oh nm vs y)) : Jo (on nm y) hp = oh nm vs y := by
 rw [← OVal.names nm vs y]; exact Aan h
theorem PF {α : Type} [AVal α] [OVal α] (h : ∀ nm vs (x : α), ov nm vs x = av x) (nm : Nat) (vs : Nat → Nat) : ∀ (i : Nat) (l : List α), ovL nm vs i l = l.map av
 | _, [] => rfl
 | i, e :: r => by simp only [ovL, List.map_cons, h, PF h nm vs (i + 1) r]
theorem PL {α : Type} [AVal α] [OVal α] (h : ∀ nm vs (x : α), oh nm vs x = []) (nm : Nat) (vs : Nat → Nat) : ∀ (i : Nat) (l : List α), ohL nm vs i l = []
 | _, [] => rfl
 | i, e :: r => by simp only [ohL, h, PL h nm vs (i + 1) r, List.append_nil]
theorem ZX (nm : Nat) (vs : Nat → Nat) (l : List Int) : oh nm vs l = [(nm, ⟨vs nm, false, 3, 1, l.map av⟩)] := by
 rw [Cn, PL (fun _ _ _ => rfl), List.nil_append, Gg, PF (fun _ _ _ => rfl)]; rfl
theorem DN (hp : Hp) : Ci [] hp = hp := by
 induction hp with
 | nil => rfl
 | cons p r ih => obtain ⟨q, c⟩ := p; rw [LQ, if_neg (by simp), ih]
theorem Jj {α : Type} [AVal α] [OVal α] (nm : Nat) (vs : Nat → Nat) (i : Nat) : ohL nm vs i ([] : List α) = [] := rfl
theorem AeM {α : Type} [AVal α] [OVal α] (h1 : ∀ nm vs (x : α), ov nm vs x = av x) (h2 : ∀ nm vs (x : α), oh nm vs x = []) (nm : Nat) (vs : Nat → Nat) (l : List α) : oh nm vs l = [(nm, ⟨vs nm, false, OVal.ty α, AVal.n α, l.map av⟩)] := by
 rw [Cn, PL h2, List.nil_append, Gg, PF h1]
/-! ### calls that are handed parts -/
theorem Bt {P : Go.Program} {f : FuncId} {args : List AV} {hp hp0 : Hp} {k : AV → Hp → Prop} {Post : AV → Hp → Prop} (hs : List Nat) (h : Bu P f args hp0 Post) {kp : DH k} (he : Jo hs hp = hp0) (hk : ∀ r hp', Post r hp' → ∀ H, H = hp' ++ Ci hs hp → k r H) : Bd2 (fun k => Lc P f args hp k) k kp :=
 Bx hs h he fun r hp' hpst => hk r hp' hpst _ rfl
section
variable {α : Type} [AVal α] [OVal α]
theorem BS {H : Hp} {K : Nat} {vs : Nat → Nat} {l : List α} (h : AR H (oh K vs l)) : Ao H K = some ⟨vs K, false, OVal.ty α, AVal.n α, ovL K vs 0 l⟩ := by
 rw [Cn, AF] at h
 exact h.2.1
theorem K1 {K nm : Nat} {vs : Nat → Nat} {y y' : α} {hp H : Hp} {b : Box} (hH : H = oh K vs y' ++ Ci (on K y) hp) (hn : ¬ InT K nm) (h : Ao hp nm = some b) : Ao H nm = some b := by
 rw [hH, Nw hn]; exact h
theorem ES {K : Nat} {vs : Nat → Nat} {y y' : α} {hp H : Hp} (hH : H = oh K vs y' ++ Ci (on K y) hp) : AR H (oh K vs y') := by
 rw [hH]; exact Cj (OVal.self _ _ _)
theorem Jh {β : Type} [AVal β] [OVal β] {K K' : Nat} {vs vs' : Nat → Nat} {y y' : α} {z : β} {hp H : Hp} (hH : H = oh K vs y' ++ Ci (on K y) hp) (h : ∀ k, InT K' k → ¬ InT K k) (hz : AR hp (oh K' vs' z)) : AR H (oh K' vs' z) := by
 rw [hH]; exact AbQ h hz
end
theorem Dn {nm i j k : Nat} (hij : i ≠ j) (h : InT (sub nm i) k) : ¬ InT (sub nm j) k := fun h' => hij (h.sib h')
end Go.Proofs.YtppjinmlfcokaaaGreat.Av
