/-
 Binds OF THE PROGRAM AND OF THE REFERENCE, by abstract texts. Conditions: none.
-/
import Derived.Test.YtjbcnilllfaipaaGreatYPgmW4
import Derived.Test.YtjbcnilllfaipaaGreatYJ29
import Derived.Test.YtjbcnilllfaipaaGreatYJ14
import Derived.Test.YtjbcnilllfaipaaGreatYEvQ
import Derived.Test.YtjbcnilllfaipaaGreatProg
import Derived.Test.YtjbcnilllfaipaaGreatYAvDraw
import Derived.Test.YtjbcnilllfaipaaGreatYJ19
set_option linter.unusedVariables false
set_option linter.unusedSimpArgs false
set_option maxRecDepth 100000
set_option linter.unusedVariables false
set_option linter.unusedSimpArgs false
set_option maxRecDepth 100000
namespace Go.Proofs.YtjbcnilllfaipaaGreat
open Go.RowKit Go.Proofs.YtjbcnilllfaipaaGreat.Av Go.Proofs.YtjbcnilllfaipaaGreat.Ml
open Go.Proofs.YtjbcnilllfaipaaGreat.Av.AVal (av)

theorem A7 (t : Tr) : (av t).cells = [av t] := by cases t; rw [DU]; rfl
theorem BA (t : Tr) (hp : Hp) : (av t).Bv hp = av t := by cases t; rw [DU]; rfl
theorem Bx (t : Tr) (hp : Hp) : (av t).AR hp = av t := by cases t; rw [DU]; rfl
theorem Adk (t : Tr) (hp : Hp) : (av t).pur hp = av t := AVal.nop t hp
theorem BW (t : Tr) : (av t).one = true := by cases t; rw [DU]; rfl
theorem Ad5 (t : Tr) : (av t).ok = true := AVal.ok t
end Go.Proofs.YtjbcnilllfaipaaGreat
set_option linter.unusedVariables false
set_option linter.unusedSimpArgs false
set_option maxRecDepth 100000
namespace Go.Proofs.YtjbcnilllfaipaaGreat
open Go.RowKit Go.Proofs.YtjbcnilllfaipaaGreat.Av Go.Proofs.YtjbcnilllfaipaaGreat.Ml
open Go.Proofs.YtjbcnilllfaipaaGreat.Av.AVal (av)

def RL (l : List Bp) (r : AV) (hp' : Hp) : Prop := ∃ v, r = .row 8 v l.length ∧ hp' = [(8, ⟨v, false, 162, 4, l.map av⟩)]
theorem Qd (a : Bp) (l : List Bp) (hl : l.length < 1099511627776) : Ay Tryz.prog 134 [.sl ((a :: l).map av)] [] (RL (a :: l)) := by
 refine Db.H rfl ?_
 simp +contextual -dsimp only [↓SD, SU, simprocAttr, Db, Aa]
 intro v
 refine ⟨⟨?_, by omega, by unfold maxLen; omega⟩, fun u => ?_⟩
 ·rintro y (rfl | hy)
  ·rw [AVal.nop]; exact AVal.len a
  ·rw [AA] at hy
   obtain ⟨x, _, rfl⟩ := List.mem_map.1 hy
   exact AVal.len x
 ·rw [AVal.nop, AA]
  refine Af.post [(8, ⟨u, false, 162, 4, (a :: l).map av⟩)] ?_
  simp +contextual -dsimp only [↓SD, SU, simprocAttr]
  exact ⟨u, rfl, rfl⟩
def W7 (l : List Int) (r : AV) (hp' : Hp) : Prop := r = .sl (l.map av) ∨ (r = .Ar ∧ AV.sl (l.map av) = AV.sl [])
theorem VU (l : List Int) (hl : l.length ≤ 1099511627776) : Ap Tryz.prog 135 [.sl (l.map av)] (.sl (l.map av)) := by
 refine Vb (Post := W7 l) (FB.H rfl ?_) (by simp; exact Aq l) (Aq l) (fun r hp' h => by exact h)
 simp +contextual -dsimp only [↓SD, SU, simprocAttr, FB, Aa]
 refine ⟨fun h => ?_, fun v => ⟨⟨?_, by omega, by unfold maxLen; omega⟩, fun u => ?_⟩⟩
 ·refine Af.post [] ?_
  simp +contextual -dsimp only [↓SD, SU, simprocAttr]
  exact .inr ⟨rfl, by rw [h]⟩
 ·rintro y hy
  rw [AA] at hy
  obtain ⟨x, _, rfl⟩ := List.mem_map.1 hy
  exact AVal.len x
 ·rw [AA]
  refine Af.post [] ?_
  simp +contextual -dsimp only [↓SD, SU, simprocAttr, AA, Aa, H9]
  exact .inl rfl

theorem PU (l : List Bp) (h : l ≠ []) (hl : l.length ≤ 1099511627776) : Ay Tryz.prog 134 [.sl (l.map av)] [] (RL l) := by
 rcases l with _ | ⟨a, l⟩
 ·exact absurd rfl h
 ·exact Qd a l (by simp at hl; omega)
theorem WO (q : Pat) (hq : q.nodes ≠ []) (hx : Ad.bulk q ≤ 1099511627776) : Ap Tryz.prog 106 [av q] (av q) := by
 obtain ⟨l⟩ := q
 have hl := Ao l
 have hb : Ad.bulk l + 1 ≤ 1099511627776 := hx
 refine JD.F rfl (by simp; exact AVal.clean _) (AVal.clean _) ?_
 have C := PU l hq (by omega)
 simp +contextual -dsimp only [↓SD, SU, simprocAttr, JD, C9, Aa]
 intro v
 refine Ae [] C (by simp +contextual -dsimp only [↓SD, SU, simprocAttr]) ?_
 rintro r hp' ⟨u, rfl, rfl⟩
 simp +contextual -dsimp only [↓SD, SU, simprocAttr, Aa]
 intro v3
 refine Al (X := Nat) (fun k => ⟨[(2, .ptr 2 v 0 0), (3, .ptr 3 v3 0 0), (11, .row 8 u l.length), (12, .int .i64 l.length), (13, .int .i64 k)], [(2, ⟨v, false, 112, 1, [.agg [.Ar]]⟩), (3, ⟨v3, false, 112, 1, [.agg [.row 8 u l.length]]⟩), (8, ⟨u, false, 162, 4, l.map av⟩)]⟩) (fun k => k ≤ l.length) (fun k => l.length - k) 0 (Nat.zero_le _) (by simp +contextual -dsimp only [↓SD, SU, simprocAttr]) (by simp +contextual -dsimp only [↓SD, SU, simprocAttr]) ?_
 rintro k hk
 by_cases hlt : k < l.length
 ·have e := getD_map av l k .top hlt
  have hm := AW (List.getElem_mem hlt)
  have hset : (l.map av).set k (av l[k]) = l.map av := by
   apply List.ext_getElem?
   intro i
   by_cases h : i = k
   ·subst h; simp [hlt]
   ·simp [List.getElem?_set, Ne.symm h]
  have hb1 : Ad.bulk l[k] = Ad.bulk l[k].kind + Ad.bulk l[k].n + Ad.bulk l[k].s + Ad.bulk l[k].kids + 1 := rfl
  have hl1 := Ao l[k].kids
  have CI := VU l[k].kids (by omega)
  generalize l[k] = a at *
  rw [A8] at hset
  simp +contextual -dsimp only [↓SD, SU, simprocAttr, Aa, hlt, e, A8]
  intro w5
  refine Ab _ CI ?_
  simp +contextual -dsimp only [↓SD, SU, simprocAttr, Aa, hlt, e, A8, hset]
  exact ⟨by omega, Af.le ⟨k + 1, ⟨hlt, (by first | omega | (simp only; omega))⟩, rfl⟩ (by simp +contextual -dsimp only [↓SD, SU, simprocAttr, Int.natCast_add]) (by simp +contextual -dsimp only [↓SD, SU, simprocAttr])⟩
 ·obtain rfl : k = l.length := by omega
  simp +contextual -dsimp only [↓SD, SU, simprocAttr, Aa, Nat.lt_irrefl, AA, List.take_length, H9]

theorem U3 (l : List Pat) (hq : ∀ q ∈ l, q.nodes ≠ []) (hx : Ad.bulk l ≤ 1099511627776) : Ap Tryz.prog 58 [.sl (l.map av)] (.sl (l.map av)) := by
 have hl := Ao l
 refine IH.F rfl (by simp; exact Aq l) (Aq l) ?_
 simp +contextual -dsimp only [↓SD, SU, simprocAttr, IH, Aa]
 intro v
 refine Al (X := Nat × Nat) (fun x => ⟨[(3, .row 6 x.2 x.1), (7, .sl (l.map av)), (8, .int .i64 l.length), (9, .int .i64 x.1)], [(6, ⟨x.2, false, 112, 1, (l.take x.1).map av⟩)]⟩) (fun x => x.1 ≤ l.length) (fun x => l.length - x.1) (0, v) (Nat.zero_le _) (by simp +contextual -dsimp only [↓SD, SU, simprocAttr]) (by simp +contextual -dsimp only [↓SD, SU, simprocAttr]) ?_
 rintro ⟨k, u⟩ hk
 simp only at hk
 by_cases hlt : k < l.length
 ·have e := getD_map av l k .top hlt
  have hm := AW (List.getElem_mem hlt)
  have C := WO l[k] (hq _ (List.getElem_mem hlt)) (by omega)
  have ht : l.take (k + 1) = l.take k ++ [l[k]] := List.take_succ_eq_append_getElem hlt
  generalize l[k] = a at *
  rw [C9] at C
  simp +contextual -dsimp only [↓SD, SU, simprocAttr, Aa, hlt, e, C9]
  intro w5
  refine Ab _ C ?_
  have hk2 : (l.take k).length = k := by simp; omega
  have ht2 : List.take k ((l.take k).map av) = (l.take k).map av := List.take_of_length_le (by simp; omega)
  simp +contextual -dsimp only [↓SD, SU, simprocAttr, Aa, hlt, e, C9, hk2, ht2]
  refine ⟨⟨by omega, by unfold maxLen; omega⟩, fun u' => ⟨by omega, Af.le ⟨(k + 1, u'), ⟨hlt, (by first | omega | (simp only; omega))⟩, rfl⟩ (by simp +contextual -dsimp only [↓SD, SU, simprocAttr, Int.natCast_add]) (by simp +contextual -dsimp only [↓SD, SU, simprocAttr, ht, List.map_append, C9])⟩⟩
 ·obtain rfl : k = l.length := by omega
  simp +contextual -dsimp only [↓SD, SU, simprocAttr, Aa, Nat.lt_irrefl, AA, List.take_length, H9]

theorem AcD (l : List Node) (hk : ∀ i, i < l.length → ∀ k ∈ AF l i, (i : Int) < k ∧ k < l.length) (hx : Ad.bulk l ≤ 1099511627776) (hp : ∀ n ∈ l, ∀ q ∈ n.As, q.nodes ≠ []) : ∀ (f i : Nat), i < l.length → l.length - i ≤ f → Ap Tryz.prog 25 [.sl (l.map av), .int .i64 i] (av (Hf l f i)) := by
 intro f
 induction f with
 | zero => intro i hi hf; omega
 | succ f ih =>
  intro i hi hf
  have hl := Ao l
  have e := getD_map av l i .top hi
  have em := List.getElem_mem hi
  obtain ⟨b1, b2, b3, b4⟩ := Du hx em
  have C := U3 l[i].As (hp _ em) b3
  have hK : AF l i = l[i].kids := by simp [AF, hi]
  have hg : Hf l (f + 1) i = .mk l[i] (l[i].kids.map fun k => Hf l f k.toNat) := by rw [Hf, hK]; simp [hi]
  have hks := hk i hi
  rw [hK] at hks
  refine L3.F rfl (by simp; exact ⟨Aq l, BL _⟩) (AVal.clean _) ?_
  rw [hg]
  clear hg hK
  generalize l[i] = n at *
  simp +contextual -dsimp only [↓SD, SU, simprocAttr, L3, Aa, hi, e, AL]
  intro w5
  refine Ab _ C ?_
  simp +contextual -dsimp only [↓SD, SU, simprocAttr, Aa, hi, e, AL]
  intro w
  refine PG (X := Nat × Nat) (fun x => ⟨[(0, .sl (l.map av)), (6, .ptr 25 w 0 0), (27, .sl (n.kids.map av)), (28, .int .i64 n.kids.length), (29, .int .i64 x.1)], [(25, ⟨w, false, 118, 6, [.agg [.int .i64 n.kind, .int .i64 n.pos, .int .i64 n.n, .str n.s, .row 42 x.2 x.1, .sl (n.As.map av)]]⟩), (42, ⟨x.2, false, 67, 1, ((n.kids.take x.1).map fun k => Hf l f k.toNat).map av⟩)]⟩) (fun x => x.1 ≤ n.kids.length) (fun x => n.kids.length - x.1) (Af.MZ 25 0 4 42 67 1 rfl rfl Nat.zero_lt_one rfl (by decide) (fun v => Af.le ⟨(0, v), Nat.zero_le _, rfl⟩ (by simp +contextual -dsimp only [↓SD, SU, simprocAttr]) (by simp +contextual -dsimp only [↓SD, SU, simprocAttr]))) ?_
  rintro ⟨j, u⟩ hj
  simp only at hj
  by_cases hlt : j < n.kids.length
  ·have e2 := getD_map av n.kids j .top hlt
   have hkj := hks _ (List.getElem_mem hlt)
   have ht : n.kids.take (j + 1) = n.kids.take j ++ [n.kids[j]] := List.take_succ_eq_append_getElem hlt
   obtain ⟨m, hm⟩ : ∃ m : Nat, n.kids[j] = m := ⟨n.kids[j].toNat, by omega⟩
   rw [hm] at e2 hkj ht
   have C2 := ih m (by omega) (by omega)
   have hk2 : (n.kids.take j).length = j := by simp; omega
   have ht2 : List.take j (((n.kids.take j).map fun k => Hf l f k.toNat).map av) = ((n.kids.take j).map fun k => Hf l f k.toNat).map av := List.take_of_length_le (by simp; omega)
   simp +contextual -dsimp only [↓SD, SU, simprocAttr, Aa, hlt, e2, Bo]
   refine Ab _ C2 ?_
   simp +contextual -dsimp only [↓SD, SU, simprocAttr, Aa, hlt, A7, Adk, Bx, BA, BW, Ad5, hk2, ht2]
   refine ⟨⟨by omega, by unfold maxLen; omega⟩, fun u' => ⟨by omega, Af.le ⟨(j + 1, u'), ⟨hlt, (by first | omega | (simp only; omega))⟩, rfl⟩ (by simp +contextual -dsimp only [↓SD, SU, simprocAttr, Int.natCast_add]) (by simp +contextual -dsimp only [↓SD, SU, simprocAttr, ht, List.map_append, Int.toNat_natCast])⟩⟩
  ·obtain rfl : j = n.kids.length := by omega
   simp +contextual -dsimp only [↓SD, SU, simprocAttr, Aa, Nat.lt_irrefl, AA, List.take_length, H9]
   rw [DU, List.take_of_length_le (by simp)]
end Go.Proofs.YtjbcnilllfaipaaGreat
set_option linter.unusedVariables false
set_option linter.unusedSimpArgs false
set_option maxRecDepth 100000
namespace Go.Proofs.YtjbcnilllfaipaaGreat
open Go.RowKit Go.Proofs.YtjbcnilllfaipaaGreat.Av Go.Proofs.YtjbcnilllfaipaaGreat.Ml
open Go.Proofs.YtjbcnilllfaipaaGreat.Av.AVal (av)

def RN (j : Nat) : Nat := sub 70 j
def ivA (k n : Int) (s : ByteArray) (kids : AV) : AV := .obj [.int .i64 k, .int .i64 n, .str s, kids, .Cx, .Cx]
def fnA (l : List Node) (i : Nat) (x : AV) : AV := .obj [.int .i64 6, .int .i64 0, .str (l.getD i default).s, .Ar, av (AD l (kd l i 0)), x]
inductive IRX (l : List Node) (vs : List Nat) : Nat → EV ⊕ EE → AV → Prop where
 | int (m : Nat) (n : Int) : IRX l vs m (.inl (.int n)) (ivA 1 n (bs []) .Ar)
 | str (m : Nat) (s : ByteArray) : IRX l vs m (.inl (.str s)) (ivA 2 0 s .Ar)
 | unit (m : Nat) : IRX l vs m (.inl .unit) (ivA 3 0 (bs []) .Ar)
 | EZ (m : Nat) (s : ByteArray) : IRX l vs m (.inl (.EZ s)) (ivA 4 0 s .Ar)
 | Gl (m : Nat) (s : ByteArray) (v : EV) (x : AV) (h : IRX l vs m (.inl v) x) : IRX l vs m (.inl (.Gl s v)) (ivA 4 0 s (.sl [x]))
 | pair (m : Nat) (a b : EV) (x y : AV) (ha : IRX l vs m (.inl a) x) (hb : IRX l vs m (.inl b) y) : IRX l vs m (.inl (.pair a b)) (ivA 5 0 (bs []) (.sl [x, y]))
 | fn (m i : Nat) (e : EE) (x : AV) (h : IRX l vs m (.inr e) x) : IRX l vs m (.inl (.fn i (bs []) e)) (fnA l i x)
 | self (m i : Nat) (nm : ByteArray) (e : EE) (x y : AV) (hn : nm ≠ bs []) (hy : ∀ k, m = k + 1 → IRX l vs k (.inl (.fn i nm e)) y) (h1 : y.one = true) (h : IRX l vs m (.inr e) x) :
   IRX l vs m (.inl (.fn i nm e)) (fnA l i (.obj [.str nm, y, x]))
 | ref (m j u : Nat) (h : vs[j]? = some u) : IRX l vs m (.inl (.ref j)) (ivA 8 0 (bs []) (.row (RN j) u 1))
 | given (m : Nat) (s : ByteArray) : IRX l vs m (.inl (.given s)) (ivA 7 0 s .Ar)
 | nil (m : Nat) : IRX l vs m (.inr .nil) .Cx
 | cons (m : Nat) (s : ByteArray) (v : EV) (up : EE) (x xu : AV) (h : IRX l vs m (.inl v) x) (hu : IRX l vs m (.inr up) xu) : IRX l vs m (.inr (.cons s v up)) (.obj [.str s, x, xu])
abbrev IR (l : List Node) (vs : List Nat) (m : Nat) (v : EV) (x : AV) : Prop := IRX l vs m (.inl v) x
abbrev IRE (l : List Node) (vs : List Nat) (m : Nat) (e : EE) (x : AV) : Prop := IRX l vs m (.inr e) x
theorem IRX.mono {l : List Node} {vs : List Nat} {m : Nat} {z : EV ⊕ EE} {x : AV} (h : IRX l vs m z x) : ∀ m', m' ≤ m → IRX l vs m' z x := by
 induction h with
 | int m n => exact fun m' _ => .int m' n
 | str m s => exact fun m' _ => .str m' s
 | unit m => exact fun m' _ => .unit m'
 | EZ m s => exact fun m' _ => .EZ m' s
 | Gl m s v x _ ih => exact fun m' k => .Gl m' s v x (ih m' k)
 | pair m a b x y _ _ ia ib => exact fun m' k => .pair m' a b x y (ia m' k) (ib m' k)
 | fn m i e x _ ih => exact fun m' k => .fn m' i e x (ih m' k)
 | self m i nm e x y hn _ h1 _ iy ih =>
  intro m' k
  refine .self m' i nm e x y hn (fun q hq => ?_) h1 (ih m' k)
  obtain ⟨r, rfl⟩ : ∃ r, m = r + 1 := ⟨m - 1, by omega⟩
  exact iy r rfl q (by omega)
 | ref m j u h => exact fun m' _ => .ref m' j u h
 | given m s => exact fun m' _ => .given m' s
 | nil m => exact fun m' _ => .nil m'
 | cons m s v up x xu _ _ iv iu => exact fun m' k => .cons m' s v up x xu (iv m' k) (iu m' k)
theorem IRX.grow {l : List Node} {vs vs' : List Nat} {m : Nat} {z : EV ⊕ EE} {x : AV} (hv : ∀ (j : Nat) (u : Nat), vs[j]? = some u → vs'[j]? = some u) (h : IRX l vs m z x) : IRX l vs' m z x := by
 induction h with
 | int m n => exact .int m n
 | str m s => exact .str m s
 | unit m => exact .unit m
 | EZ m s => exact .EZ m s
 | Gl m s v x _ ih => exact .Gl m s v x ih
 | pair m a b x y _ _ ia ib => exact .pair m a b x y ia ib
 | fn m i e x _ ih => exact .fn m i e x ih
 | self m i nm e x y hn _ h1 _ iy ih => exact .self m i nm e x y hn iy h1 ih
 | ref m j u h => exact .ref m j u (hv j u h)
 | given m s => exact .given m s
 | nil m => exact .nil m
 | cons m s v up x xu _ _ iv iu => exact .cons m s v up x xu iv iu
theorem IRX.one {l : List Node} {vs : List Nat} {m : Nat} {z : EV ⊕ EE} {x : AV} (h : IRX l vs m z x) : x.one = true := by cases h <;> rfl
theorem IRX.AR {l : List Node} {vs : List Nat} {m : Nat} {z : EV ⊕ EE} {x : AV} (h : IRX l vs m z x) (hp : Hp) : x.AR hp = x := by cases h <;> rfl
theorem IRX.pur {l : List Node} {vs : List Nat} {m : Nat} {z : EV ⊕ EE} {x : AV} (h : IRX l vs m z x) (hp : Hp) : x.pur hp = x := by cases h <;> rfl
theorem IRX.Bv {l : List Node} {vs : List Nat} {m : Nat} {z : EV ⊕ EE} {x : AV} (h : IRX l vs m z x) (hp : Hp) : x.Bv hp = x := by cases h <;> rfl
theorem IRX.cells {l : List Node} {vs : List Nat} {m : Nat} {z : EV ⊕ EE} {x : AV} (h : IRX l vs m z x) : x.cells = [x] := by cases h <;> rfl
theorem IRX.ok {l : List Node} {vs : List Nat} {m : Nat} {z : EV ⊕ EE} {x : AV} (h : IRX l vs m z x) : x.ok = true := by cases h <;> rfl
def Co : Nat → List Nat → List AV → Hp
 | j, v :: vs, x :: xs => (RN j, ⟨v, false, 65, 1, [x]⟩) :: Co (j + 1) vs xs
 | _, _, _ => []
def iH (b tv : Nat) (M : Int) (st : ES) (n : Int) (vs : List Nat) (xs : List AV) : Hp :=
 (60, ⟨b, false, 64, 6, [.agg [.sl (st.inp.map av), .int .i64 M, .row 61 tv st.tr.length, .int .i64 st.steps, .int .i64 st.stop, .int .i64 n]]⟩) :: (61, ⟨tv, false, 9, 1, st.tr.map av⟩) :: Co 0 vs xs
end Go.Proofs.YtjbcnilllfaipaaGreat
set_option linter.unusedVariables false
set_option maxRecDepth 100000
namespace Go.Proofs.YtjbcnilllfaipaaGreat
open Go.Proofs.YtjbcnilllfaipaaGreat.Av

theorem Cw : Tryz.prog.follows .mixedOrders = true := by kernel_rfl

def DX : Ir Tryz.prog 55 [] [9999] 1 := ⟨_, _, Tryz.func55, Cw, by kernel_rfl, Ag [] Tryz.progTables (by conv => lhs; cbv) (by kernel_rfl)⟩
def HH : Ir Tryz.prog 100 [] [9999] 1 := ⟨_, _, Tryz.func100, Cw, by kernel_rfl, Ag [] Tryz.progTables (by conv => lhs; cbv) (by kernel_rfl)⟩
def GD : Ir Tryz.prog 103 [] [9999] 2 := ⟨_, _, Tryz.func103, Cw, by kernel_rfl, Ag [] Tryz.progTables (by conv => lhs; cbv) (by kernel_rfl)⟩
def DA : Ir Tryz.prog 26 [] [9999] 1 := ⟨_, _, Tryz.func26, Cw, by kernel_rfl, Ag [10001] Tryz.progTables (by conv => lhs; cbv) (by kernel_rfl)⟩
def Bi : Ir Tryz.prog 131 [(71, 7777), (89, 7777)] [9999] 5 := ⟨_, _, Tryz.func131, Cw, by kernel_rfl, Ag [] Tryz.progTables (by conv => lhs; cbv) (by kernel_rfl)⟩
def FQ : Ir Tryz.prog 56 [(31, 7777)] [9999] 3 := ⟨_, _, Tryz.func56, Cw, by kernel_rfl, Ag [] Tryz.progTables (by conv => lhs; cbv) (by kernel_rfl)⟩
def Dk : Ir Tryz.prog 104 [(31, 7777), (54, 7777), (66, 7777)] [9999] 3 := ⟨_, _, Tryz.func104, Cw, by kernel_rfl, Ag [] Tryz.progTables (by conv => lhs; cbv) (by kernel_rfl)⟩
def AQ : Ir Tryz.prog 105 [(44, 7777), (76, 7777), (97, 7777)] [9999] 4 := ⟨_, _, Tryz.func105, Cw, by kernel_rfl, Ag [] Tryz.progTables (by conv => lhs; cbv) (by kernel_rfl)⟩
def Az : Ir Tryz.prog 24 [(92,62),(101,63),(167,64), (115, 7777), (126, 7777), (14, 7777), (159, 7777), (183, 7777), (202, 7777), (213, 7777), (48, 7777), (69, 7777)] [9999, 19] 3 := ⟨_, _, Tryz.func24, Cw, by kernel_rfl, Ag [] Tryz.progTables (by conv => lhs; cbv) (by kernel_rfl)⟩
def Ah : Ir Tryz.prog 57 [(182,65), (101, 7777), (120, 7777), (134, 7777), (139, 7777), (150, 7777), (159, 7777), (170, 7777), (178, 7777), (195, 7777), (210, 7777), (226, 7777), (236, 7777), (252, 7777), (35, 7777), (67, 7777), (97, 7777)] [9999] 4 := ⟨_, _, Tryz.func57, Cw, by kernel_rfl, Ag [] Tryz.progTables (by conv => lhs; cbv) (by kernel_rfl)⟩
def Bu : Ir Tryz.prog 101 [(100, 7777)] [9999] 3 := ⟨_, _, Tryz.func101, Cw, by kernel_rfl, Ag [] Tryz.progTables (by conv => lhs; cbv) (by kernel_rfl)⟩
def Eo : Ir Tryz.prog 99 [] [] 1 := ⟨_, _, Tryz.func99, Cw, by kernel_rfl, Ag [] Tryz.progTables (by conv => lhs; cbv) (by kernel_rfl)⟩
end Go.Proofs.YtjbcnilllfaipaaGreat
set_option linter.unusedVariables false
set_option linter.unusedSimpArgs false
set_option maxRecDepth 100000
namespace Go.Proofs.YtjbcnilllfaipaaGreat
open Go.RowKit Go.Proofs.YtjbcnilllfaipaaGreat.Av Go.Proofs.YtjbcnilllfaipaaGreat.Ml
open Go.Proofs.YtjbcnilllfaipaaGreat.Av.AVal (av)

theorem OZ (n : Int) (hn : -9223372036854775808 ≤ n ∧ n ≤ 9223372036854775807) : Ap Tryz.prog 146 [.int .i64 n] (.str (HR n)) := by
 refine Fl.F rfl (by simp; exact BL _) (Ac.str _) ?_
 have W := Em n (-4611686018427387904) 4611686018427387903
 by_cases hin : -4611686018427387904 ≤ n ∧ n ≤ 4611686018427387903
 ·have hw : (decide (-4611686018427387904 ≤ n) && decide (n ≤ 4611686018427387903)) = true := by simp; exact hin
  rw [hw] at W
  by_cases h0 : n < 0
  ·have hS : HR n = ⟨#[45]⟩ ++ HX (-n).toNat := by unfold HR; rw [if_pos hin, if_pos h0]
   obtain ⟨k, rfl⟩ : ∃ k : Nat, n = -(k : Int) := ⟨(-n).toNat, by omega⟩
   have hs := KC k (by omega)
   have hk : (-(-(k : Int))).toNat = k := by omega
   have hk2 : -(-(k : Int)) = k := by omega
   rw [hS, hk]
   simp +contextual -dsimp only [↓SD, SU, simprocAttr, Fl]
   refine Ab _ W ?_
   simp +contextual -dsimp only [↓SD, SU, simprocAttr, h0, hk2]
   refine ⟨by omega, ?_⟩
   refine Ab _ (Rm k (by omega)) ?_
   have hb : bs [45] = (⟨#[45]⟩ : ByteArray) := rfl
   simp +contextual -dsimp only [↓SD, SU, simprocAttr, hb]
   have h1 : (⟨#[45]⟩ : ByteArray).size = 1 := rfl
   unfold maxLen; omega
  ·have hS : HR n = HX n.toNat := by unfold HR; rw [if_pos hin, if_neg h0]
   obtain ⟨k, rfl⟩ : ∃ k : Nat, n = (k : Int) := ⟨n.toNat, by omega⟩
   rw [hS, Int.toNat_natCast]
   simp +contextual -dsimp only [↓SD, SU, simprocAttr, Fl]
   refine Ab _ W ?_
   simp +contextual -dsimp only [↓SD, SU, simprocAttr, h0]
   refine Ab _ (Rm k (by omega)) ?_
   simp +contextual -dsimp only [↓SD, SU, simprocAttr]
 ·have hw : (decide (-4611686018427387904 ≤ n) && decide (n ≤ 4611686018427387903)) = false := by simp; omega
  rw [hw] at W
  have hS : HR n = ⟨#[]⟩ := by unfold HR; rw [if_neg hin]
  rw [hS]
  simp +contextual -dsimp only [↓SD, SU, simprocAttr, Fl]
  refine Ab _ W ?_
  simp +contextual -dsimp only [↓SD, SU, simprocAttr]
  first | done | rfl
end Go.Proofs.YtjbcnilllfaipaaGreat
