/-
 RIGHT PATTERNS AND VALUES, told plainly. Conditions: none.
-/
import Derived.Test.YtjbcnilllfaipaaGreatYWords
import Derived.Test.YtjbcnilllfaipaaGreatYJ08
import Derived.Test.YtjbcnilllfaipaaGreatYJ07
import Derived.Test.YtjbcnilllfaipaaGreatRows
import Derived.Test.YtjbcnilllfaipaaGreatYJ00
set_option linter.unusedVariables false
namespace Go.Proofs.YtjbcnilllfaipaaGreat
open Go.RowKit Go.Proofs.YtjbcnilllfaipaaGreat.Av Go.Proofs.YtjbcnilllfaipaaGreat.Ml
open Go.Proofs.YtjbcnilllfaipaaGreat.Av.AVal (av)

def AG {α : Type} [Inhabited α] (kd : α → Int) (l : List α) (kids : List Int) (d : Int) : Bool :=
 match kids with
 | [k] => decide (0 ≤ k) && decide (k < l.length) && decide (kd (l.getD k.toNat default) = d)
 | _ => false
def Ec (l : List Bp) (n : Bp) : Bool :=
 if n.kind = 1 ∨ n.kind = 6 then decide (n.kids.length = 0) && decide (n.n = 0) && decide (n.s = bs [])
 else if n.kind = 2 then decide (n.kids.length = 0) && decide (n.n = 0) && F0 n.s
 else if n.kind = 3 then decide (n.kids.length = 0) && decide (n.s = bs []) && (decide (-4611686018427387903 ≤ n.n) && decide (n.n ≤ 4611686018427387903))
 else if n.kind = 4 then decide (n.n = 0) && JK n.s n.kids.length (AG Bp.kind l n.kids 5)
 else if n.kind = 5 then decide (n.kids.length = 2) && decide (n.n = 0) && decide (n.s = bs [])
 else false
def varsOf (l : List Bp) : List ByteArray := l.filterMap fun n => if n.kind = 2 then some n.s else none
def Hq (l : List Bp) (i : Nat) : Bool := Ec l (l.getD i default) && !(decide ((l.getD i default).kind = 2) && (varsOf (l.take i)).any fun x => decide ((l.getD i default).s = x))
def B8 (l : List Bp) (i : Nat) : List Int := (l.getD i default).kids
def Ft (l : List Bp) : Bool := (decide (1 ≤ (l.length : Int)) && decide ((l.length : Int) ≤ 600)) && Fw (B8 l) l.length && allI (Hq l) l.length
theorem Sf {α : Type} [Inhabited α] {kd : α → Int} {l : List α} {kids : List Int} {d : Int} (h : ¬ (0 ≤ kids.getD 0 0 ∧ kids.getD 0 0 < l.length)) : AG kd l kids d = false := by
 unfold AG; split
 ·rename_i k
  simp only [List.getD_cons_zero] at h
  by_cases h0 : 0 ≤ k
  ·have : ¬ k < l.length := fun h1 => h ⟨h0, h1⟩
   simp [this]
  ·simp [h0]
 ·rfl
theorem S3 {l : List Bp} {k : Nat} (h : k < l.length) : varsOf (l.take (k + 1)) = varsOf (l.take k) ++ (if l[k].kind = 2 then [l[k].s] else []) := by
 rw [List.take_succ_eq_append_getElem h, varsOf, List.filterMap_append]
 congr 1
 split <;> simp_all
theorem Ge {l : List Bp} (hx : Ad.bulk l ≤ 1099511627776) (k : Nat) (hk : k < l.length) : l[k].kids.length ≤ 1099511627776 ∧ l[k].s.size ≤ 1099511627776 := by
 have h1 := AW (List.getElem_mem hk)
 have h2 : Ad.bulk l[k] = Ad.bulk l[k].kind + Ad.bulk l[k].n + Ad.bulk l[k].s + Ad.bulk l[k].kids + 1 := rfl
 have h3 := Ao l[k].kids
 have h4 : Ad.bulk l[k].s = l[k].s.size + 1 := rfl
 omega
theorem N1 (l : List Bp) : (varsOf l).length ≤ l.length := List.length_filterMap_le _ _
end Go.Proofs.YtjbcnilllfaipaaGreat
set_option linter.unusedVariables false
namespace Go.Proofs.YtjbcnilllfaipaaGreat
open Go.RowKit Go.Proofs.YtjbcnilllfaipaaGreat.Av Go.Proofs.YtjbcnilllfaipaaGreat.Ml
open Go.Proofs.YtjbcnilllfaipaaGreat.Av.AVal (av)

structure Hd where
 kind : Int
 n : Int
 s : ByteArray
 deriving DecidableEq
inductive Px where
 | mk (h : Hd) (ks : List Px)
theorem Px.ind {P : Px → Prop} (h : ∀ n ks, (∀ k ∈ ks, P k) → P (.mk n ks)) : ∀ t, P t
 | .mk n ks => h n ks fun k hk => Px.ind h k
termination_by t => SizeOf.sizeOf t
decreasing_by
 have := List.sizeOf_lt_of_mem hk
 simp only [Px.mk.sizeOf_spec]
 omega
def Px.hd : Px → Hd
 | .mk h _ => h
def Px.kids : Px → List Px
 | .mk _ ks => ks
mutual
def pxA : Px → AV
 | .mk n ks => .obj [.int .i64 n.kind, .int .i64 n.n, .str n.s, .sl (Aaz ks)]
def Aaz : List Px → List AV
 | [] => []
 | t :: ts => pxA t :: Aaz ts
end
theorem TK : ∀ ks, Aaz ks = ks.map pxA
 | [] => by rw [Aaz]; rfl
 | t :: ts => by rw [Aaz, TK ts]; rfl
theorem JR (n : Hd) (ks : List Px) : pxA (.mk n ks) = .obj [.int .i64 n.kind, .int .i64 n.n, .str n.s, .sl (ks.map pxA)] := by rw [pxA, TK]
theorem Zt : ∀ t, Ac (pxA t) := Px.ind fun n ks ih => by
 rw [JR]
 refine Ac.obj ?_
 simp only [List.mem_cons, List.not_mem_nil, or_false]
 rintro x (rfl | rfl | rfl | rfl)
 ·exact BL _
 ·exact BL _
 ·exact Ac.str _
 ·refine Ac.sl fun e he y hy => ?_
  obtain ⟨k, hk, rfl⟩ := List.mem_map.1 he
  have h := ih k hk
  cases k with | mk m js =>
  rw [JR] at hy h
  simp only [AV.cells, List.mem_cons, List.not_mem_nil, or_false] at hy
  subst hy
  exact h
instance : AVal Px := ⟨pxA, 1, fun x => (by cases x; rw [JR]; rfl), fun x => (by cases x; rw [JR]; rfl), fun x y hy => (by
 have h := Zt x
 cases x with | mk n ks =>
 rw [JR] at hy h
 simp only [AV.cells, List.mem_cons, List.not_mem_nil, or_false] at hy
 subst hy
 exact h), fun x hp => (by cases x; rw [JR]; rfl), fun x y hy => (by
 cases x with | mk n ks =>
 rw [JR] at hy
 simp only [AV.cells, List.mem_cons, List.not_mem_nil, or_false] at hy
 subst hy
 rfl)⟩
theorem Nx (n : Hd) (ks : List Px) : av (Px.mk n ks) = .obj [.int .i64 n.kind, .int .i64 n.n, .str n.s, .sl (ks.map av)] := JR n ks
theorem Lz (t : Px) : (av t).cells = [av t] := by cases t; rw [Nx]; rfl
theorem Ady (t : Px) (hp : Hp) : (av t).pur hp = av t := AVal.nop t hp
theorem NR (t : Px) (hp : Hp) : (av t).AR hp = av t := by cases t; rw [Nx]; rfl
theorem Xy (t : Px) (hp : Hp) : (av t).Bv hp = av t := by cases t; rw [Nx]; rfl
theorem Sc (t : Px) : (av t).one = true := by cases t; rw [Nx]; rfl
theorem Aec (t : Px) : (av t).ok = true := AVal.ok t

def Dc (H : Nat → Hd) (K : Nat → List Int) : Nat → Nat → Px
 | 0, i => .mk (H i) []
 | f + 1, i => .mk (H i) ((K i).map fun k => Dc H K f k.toNat)
theorem MR {H : Nat → Hd} {K : Nat → List Int} {n : Nat} (hk : ∀ i, i < n → ∀ k ∈ K i, (i : Int) < k ∧ k < n) : ∀ (f g i : Nat), i < n → n - i ≤ f → n - i ≤ g → Dc H K f i = Dc H K g i
 | 0, g, i, hi, hf, _ => by omega
 | f + 1, 0, i, hi, _, hg => by omega
 | f + 1, g + 1, i, hi, hf, hg => by
  rw [Dc, Dc]
  congr 1
  refine List.map_congr_left fun k hk' => ?_
  have := hk i hi k hk'
  exact MR hk f g k.toNat (by omega) (by omega) (by omega)
def phd (l : List Bp) (i : Nat) : Hd := ⟨(l.getD i default).kind, (l.getD i default).n, (l.getD i default).s⟩
end Go.Proofs.YtjbcnilllfaipaaGreat
set_option linter.unusedVariables false
namespace Go.Proofs.YtjbcnilllfaipaaGreat
open Go.RowKit Go.Proofs.YtjbcnilllfaipaaGreat.Ml

theorem QD : CD 81 (List Pat) := Fq Aav Tryz.underlying81 (by kernel_rfl) (by simp [Rep.n])

end Go.Proofs.YtjbcnilllfaipaaGreat
set_option linter.unusedVariables false
namespace Go.Proofs.YtjbcnilllfaipaaGreat
open Go.RowKit Go.Proofs.YtjbcnilllfaipaaGreat.Ml

structure Bw where
 var : Int
 name : ByteArray
 arity : Int
 deriving DecidableEq, Inhabited

def Bw.rep (S : Nat → Prop) (w : World) (cs : List Value) (x : Bw) : Prop := cs = [Value.int .i64 x.var, Value.string x.name, Value.int .i64 x.arity] ∧ (-9223372036854775808 ≤ x.var ∧ x.var ≤ 9223372036854775807) ∧ x.name.size ≤ maxLen ∧ (-9223372036854775808 ≤ x.arity ∧ x.arity ≤ 9223372036854775807)
instance : Rep Bw where
 n := 3
 rep := Bw.rep
 len := by rintro _ _ _ _ ⟨rfl, _⟩; rfl
 carry := by rintro _ _ _ _ _ _ ⟨rfl, h0, h1, h2⟩ hS hw; exact ⟨rfl, h0, h1, h2⟩
theorem Bw.form {S : Nat → Prop} {w : World} {cs : List Value} {x : Bw} (h : Rep.rep S w cs x) : cs = [Value.int .i64 x.var, Value.string x.name, Value.int .i64 x.arity] ∧ (-9223372036854775808 ≤ x.var ∧ x.var ≤ 9223372036854775807) ∧ x.name.size ≤ maxLen ∧ (-9223372036854775808 ≤ x.arity ∧ x.arity ≤ 9223372036854775807) := by
 obtain ⟨rfl, h0, h1, h2⟩ := h
 exact ⟨rfl, h0, h1, h2⟩
instance : Ad Bw := ⟨fun x => Ad.bulk x.var + Ad.bulk x.name + Ad.bulk x.arity + 1, fun _ => by omega⟩

structure Ty where
 items : List Bw
 deriving DecidableEq, Inhabited

def Ty.rep (S : Nat → Prop) (w : World) (cs : List Value) (x : Ty) : Prop := ∃ v0, cs = [v0] ∧ Dj S w v0 x.items
instance : Rep Ty where
 n := 1
 rep := Ty.rep
 len := by rintro _ _ _ _ ⟨v0, rfl, _⟩; rfl
 carry := by rintro _ _ _ _ _ _ ⟨v0, rfl, h0⟩ hS hw; exact ⟨v0, rfl, h0.carry hS hw⟩
theorem Ty.form {S : Nat → Prop} {w : World} {cs : List Value} {x : Ty} (h : Rep.rep S w cs x) : ∃ a0 c0, cs = [Value.slice a0 x.items.length c0] ∧ Dj S w (.slice a0 x.items.length c0) x.items := by
 obtain ⟨v0, rfl, h0⟩ := h
 obtain ⟨a0, c0, rfl⟩ := h0.form
 exact ⟨a0, c0, rfl, h0⟩
instance : Ad Ty := ⟨fun x => Ad.bulk x.items + 1, fun _ => by omega⟩

theorem TJ : CD 224 Bw := ⟨by kernel_rfl, fun {H enc w fuel cs x} h => by
 obtain ⟨xs, m, _, rfl, hlen, hxs, hf⟩ := DataW.trod_struct Tryz.underlying224 h
 have hn : Tryz.prog.cellsOf 224 = 3 := by kernel_rfl
 rw [hn] at hlen
 obtain ⟨c0, t0, rfl, l0⟩ := AK hlen
 obtain ⟨c1, t1, rfl, l1⟩ := AK l0
 obtain ⟨c2, t2, rfl, l2⟩ := AK l1
 obtain rfl := Cu l2
 obtain ⟨y0, s0, rfl, n0⟩ := AK (n := 2) hxs
 obtain ⟨y1, s1, rfl, n1⟩ := AK (n := 1) n0
 obtain ⟨y2, s2, rfl, n2⟩ := AK (n := 0) n1
 obtain rfl := Cu n2
 obtain ⟨z0, e0, b0⟩ := CF.get (cs := [c0]) (x := y0) (by have := hf 0 _ rfl; simpa [CF.n, Rep.n] using this)
 obtain ⟨z1, e1, b1⟩ := E9.get (cs := [c1]) (x := y1) (by have := hf 1 _ rfl; simpa [E9.n, Rep.n] using this)
 obtain ⟨z2, e2, b2⟩ := CF.get (cs := [c2]) (x := y2) (by have := hf 2 _ rfl; simpa [CF.n, Rep.n] using this)
 obtain ⟨q0, g0⟩ := e0; simp only [List.cons.injEq, and_true] at q0; subst q0
 obtain ⟨q1, g1⟩ := e1; simp only [List.cons.injEq, and_true] at q1; subst q1
 obtain ⟨q2, g2⟩ := e2; simp only [List.cons.injEq, and_true] at q2; subst q2
 exact ⟨⟨z0, z1, z2⟩, ⟨rfl, g0, g1, g2⟩, by simp only [Ad.bulk, Rows.uptoBulk, Rows.uptoBulkAll, List.map_cons, List.map_nil] at b0 b1 b2 ⊢; omega⟩⟩

theorem Ly : CD 179 (List Bw) := Fq TJ Tryz.underlying179 (by kernel_rfl) (by simp [Rep.n])

theorem Xx : CD 181 Ty := ⟨by kernel_rfl, fun {H enc w fuel cs x} h => by
 obtain ⟨xs, m, _, rfl, hlen, hxs, hf⟩ := DataW.trod_struct Tryz.underlying181 h
 have hn : Tryz.prog.cellsOf 181 = 1 := by kernel_rfl
 rw [hn] at hlen
 obtain ⟨c0, t0, rfl, l0⟩ := AK hlen
 obtain rfl := Cu l0
 obtain ⟨y0, s0, rfl, n0⟩ := AK (n := 0) hxs
 obtain rfl := Cu n0
 obtain ⟨z0, e0, b0⟩ := Ly.get (cs := [c0]) (x := y0) (by have := hf 0 _ rfl; simpa [Ly.n, Rep.n] using this)
 obtain ⟨v0, q0, g0⟩ := e0; simp only [List.cons.injEq, and_true] at q0; subst q0
 exact ⟨⟨z0⟩, ⟨c0, rfl, g0⟩, by simp only [Ad.bulk, Rows.uptoBulk, Rows.uptoBulkAll, List.map_cons, List.map_nil] at b0 ⊢; omega⟩⟩

end Go.Proofs.YtjbcnilllfaipaaGreat
