/-
 COPIES OF PATTERNS, AND THE TREES, of the program, by abstract texts. Conditions: none.
-/
import Derived.Test.YtoffpbehgncakaaGreatKJ45
import Derived.Test.YtoffpbehgncakaaGreatKJ39
import Derived.Test.YtoffpbehgncakaaGreatProg
import Derived.Test.YtoffpbehgncakaaGreatKAvDraw
set_option linter.unusedVariables false
set_option linter.unusedSimpArgs false
set_option maxRecDepth 100000
namespace Go.Proofs.YtoffpbehgncakaaGreat
open Go.RowKit Go.Proofs.YtoffpbehgncakaaGreat.Av Go.Proofs.YtoffpbehgncakaaGreat.Ml
open Go.Proofs.YtoffpbehgncakaaGreat.Av.AVal (av)

def Qi (l : List BD) (r : AV) (hp' : Hp) : Prop := ∃ v, r = .row 8 v l.length ∧ hp' = [(8, ⟨v, false, 83, 4, l.map av⟩)]
theorem Oy (a : BD) (l : List BD) (hl : l.length < 1099511627776) : AW Tryz.prog 148 [.sl ((a :: l).map av)] [] (Qi (a :: l)) := by
 refine Cj.H rfl ?_
 simp +contextual -dsimp only [↓SD, SU, simprocAttr, Cj, Aa]
 intro v
 refine ⟨⟨?_, by omega, by unfold maxLen; omega⟩, fun u => ?_⟩
 ·rintro y (rfl | hy)
  ·rw [AVal.nop]; exact AVal.len a
  ·rw [Ab] at hy
   obtain ⟨x, _, rfl⟩ := List.mem_map.1 hy
   exact AVal.len x
 ·rw [AVal.nop, Ab]
  refine Ai.post [(8, ⟨u, false, 83, 4, (a :: l).map av⟩)] ?_
  simp +contextual -dsimp only [↓SD, SU, simprocAttr]
  exact ⟨u, rfl, rfl⟩
def Vu (l : List Int) (r : AV) (hp' : Hp) : Prop := r = .sl (l.map av) ∨ (r = .Au ∧ AV.sl (l.map av) = AV.sl [])
theorem Ul (l : List Int) (hl : l.length ≤ 1099511627776) : AH Tryz.prog 149 [.sl (l.map av)] (.sl (l.map av)) := by
 refine Tp (Post := Vu l) (Ej.H rfl ?_) (by simp; exact AQ l) (AQ l) (fun r hp' h => by exact h)
 simp +contextual -dsimp only [↓SD, SU, simprocAttr, Ej, Aa]
 refine ⟨fun h => ?_, fun v => ⟨⟨?_, by omega, by unfold maxLen; omega⟩, fun u => ?_⟩⟩
 ·refine Ai.post [] ?_
  simp +contextual -dsimp only [↓SD, SU, simprocAttr]
  exact .inr ⟨rfl, by rw [h]⟩
 ·rintro y hy
  rw [Ab] at hy
  obtain ⟨x, _, rfl⟩ := List.mem_map.1 hy
  exact AVal.len x
 ·rw [Ab]
  refine Ai.post [] ?_
  simp +contextual -dsimp only [↓SD, SU, simprocAttr, Ab, Aa, DT]
  exact .inl rfl

theorem Od (l : List BD) (h : l ≠ []) (hl : l.length ≤ 1099511627776) : AW Tryz.prog 148 [.sl (l.map av)] [] (Qi l) := by
 rcases l with _ | ⟨a, l⟩
 ·exact absurd rfl h
 ·exact Oy a l (by simp at hl; omega)
theorem Vc (q : Pat) (hq : q.nodes ≠ []) (hx : AE.bulk q ≤ 1099511627776) : AH Tryz.prog 85 [av q] (av q) := by
 obtain ⟨l⟩ := q
 have hl := A2 l
 have hb : AE.bulk l + 1 ≤ 1099511627776 := hx
 refine HX.F rfl (by simp; exact AVal.clean _) (AVal.clean _) ?_
 have C := Od l hq (by omega)
 simp +contextual -dsimp only [↓SD, SU, simprocAttr, HX, Ed, Aa]
 intro v
 refine Ad [] C (by simp +contextual -dsimp only [↓SD, SU, simprocAttr]) ?_
 rintro r hp' ⟨u, rfl, rfl⟩
 simp +contextual -dsimp only [↓SD, SU, simprocAttr, Aa]
 intro v3
 refine AB (X := Nat) (fun k => ⟨[(2, .ptr 2 v 0 0), (3, .ptr 3 v3 0 0), (11, .row 8 u l.length), (12, .int .i64 l.length), (13, .int .i64 k)], [(2, ⟨v, false, 66, 1, [.agg [.Au]]⟩), (3, ⟨v3, false, 66, 1, [.agg [.row 8 u l.length]]⟩), (8, ⟨u, false, 83, 4, l.map av⟩)]⟩) (fun k => k ≤ l.length) (fun k => l.length - k) 0 (Nat.zero_le _) (by simp +contextual -dsimp only [↓SD, SU, simprocAttr]) (by simp +contextual -dsimp only [↓SD, SU, simprocAttr]) ?_
 rintro k hk
 by_cases hlt : k < l.length
 ·have e := getD_map av l k .top hlt
  have hm := CY (List.getElem_mem hlt)
  have hset : (l.map av).set k (av l[k]) = l.map av := by
   apply List.ext_getElem?
   intro i
   by_cases h : i = k
   ·subst h; simp [hlt]
   ·simp [List.getElem?_set, Ne.symm h]
  have hb1 : AE.bulk l[k] = AE.bulk l[k].kind + AE.bulk l[k].n + AE.bulk l[k].s + AE.bulk l[k].kids + 1 := rfl
  have hl1 := A2 l[k].kids
  have CI := Ul l[k].kids (by omega)
  generalize l[k] = a at *
  rw [Bw] at hset
  simp +contextual -dsimp only [↓SD, SU, simprocAttr, Aa, hlt, e, Bw]
  intro w5
  refine Ac _ CI ?_
  simp +contextual -dsimp only [↓SD, SU, simprocAttr, Aa, hlt, e, Bw, hset]
  exact ⟨by omega, Ai.le ⟨k + 1, ⟨hlt, (by first | omega | (simp only; omega))⟩, rfl⟩ (by simp +contextual -dsimp only [↓SD, SU, simprocAttr, Int.natCast_add]) (by simp +contextual -dsimp only [↓SD, SU, simprocAttr])⟩
 ·obtain rfl : k = l.length := by omega
  simp +contextual -dsimp only [↓SD, SU, simprocAttr, Aa, Nat.lt_irrefl, Ab, List.take_length, DT]

theorem Tg (l : List Pat) (hq : ∀ q ∈ l, q.nodes ≠ []) (hx : AE.bulk l ≤ 1099511627776) : AH Tryz.prog 46 [.sl (l.map av)] (.sl (l.map av)) := by
 have hl := A2 l
 refine G3.F rfl (by simp; exact AQ l) (AQ l) ?_
 simp +contextual -dsimp only [↓SD, SU, simprocAttr, G3, Aa]
 intro v
 refine AB (X := Nat × Nat) (fun x => ⟨[(3, .row 6 x.2 x.1), (7, .sl (l.map av)), (8, .int .i64 l.length), (9, .int .i64 x.1)], [(6, ⟨x.2, false, 66, 1, (l.take x.1).map av⟩)]⟩) (fun x => x.1 ≤ l.length) (fun x => l.length - x.1) (0, v) (Nat.zero_le _) (by simp +contextual -dsimp only [↓SD, SU, simprocAttr]) (by simp +contextual -dsimp only [↓SD, SU, simprocAttr]) ?_
 rintro ⟨k, u⟩ hk
 simp only at hk
 by_cases hlt : k < l.length
 ·have e := getD_map av l k .top hlt
  have hm := CY (List.getElem_mem hlt)
  have C := Vc l[k] (hq _ (List.getElem_mem hlt)) (by omega)
  have ht : l.take (k + 1) = l.take k ++ [l[k]] := List.take_succ_eq_append_getElem hlt
  generalize l[k] = a at *
  rw [Ed] at C
  simp +contextual -dsimp only [↓SD, SU, simprocAttr, Aa, hlt, e, Ed]
  intro w5
  refine Ac _ C ?_
  have hk2 : (l.take k).length = k := by simp; omega
  have ht2 : List.take k ((l.take k).map av) = (l.take k).map av := List.take_of_length_le (by simp; omega)
  simp +contextual -dsimp only [↓SD, SU, simprocAttr, Aa, hlt, e, Ed, hk2, ht2]
  refine ⟨⟨by omega, by unfold maxLen; omega⟩, fun u' => ⟨by omega, Ai.le ⟨(k + 1, u'), ⟨hlt, (by first | omega | (simp only; omega))⟩, rfl⟩ (by simp +contextual -dsimp only [↓SD, SU, simprocAttr, Int.natCast_add]) (by simp +contextual -dsimp only [↓SD, SU, simprocAttr, ht, List.map_append, Ed])⟩⟩
 ·obtain rfl : k = l.length := by omega
  simp +contextual -dsimp only [↓SD, SU, simprocAttr, Aa, Nat.lt_irrefl, Ab, List.take_length, DT]

theorem AaQ (l : List Node) (hk : ∀ i, i < l.length → ∀ k ∈ BZ l i, (i : Int) < k ∧ k < l.length) (hx : AE.bulk l ≤ 1099511627776) (hp : ∀ n ∈ l, ∀ q ∈ n.AL, q.nodes ≠ []) : ∀ (f i : Nat), i < l.length → l.length - i ≤ f → AH Tryz.prog 19 [.sl (l.map av), .int .i64 i] (av (Cq l f i)) := by
 intro f
 induction f with
 | zero => intro i hi hf; omega
 | succ f ih =>
  intro i hi hf
  have hl := A2 l
  have e := getD_map av l i .top hi
  have em := List.getElem_mem hi
  obtain ⟨b1, b2, b3, b4⟩ := Dy hx em
  have C := Tg l[i].AL (hp _ em) b3
  have hK : BZ l i = l[i].kids := by simp [BZ, hi]
  have hg : Cq l (f + 1) i = .mk l[i] (l[i].kids.map fun k => Cq l f k.toNat) := by rw [Cq, hK]; simp [hi]
  have hks := hk i hi
  rw [hK] at hks
  refine Kz.F rfl (by simp; exact ⟨AQ l, Cr _⟩) (AVal.clean _) ?_
  rw [hg]
  clear hg hK
  generalize l[i] = n at *
  simp +contextual -dsimp only [↓SD, SU, simprocAttr, Kz, Aa, hi, e, Ba]
  intro w5
  refine Ac _ C ?_
  simp +contextual -dsimp only [↓SD, SU, simprocAttr, Aa, hi, e, Ba]
  intro w
  refine C0 (X := Nat × Nat) (fun x => ⟨[(0, .sl (l.map av)), (6, .ptr 25 w 0 0), (27, .sl (n.kids.map av)), (28, .int .i64 n.kids.length), (29, .int .i64 x.1)], [(25, ⟨w, false, 79, 6, [.agg [.int .i64 n.kind, .int .i64 n.pos, .int .i64 n.n, .str n.s, .row 42 x.2 x.1, .sl (n.AL.map av)]]⟩), (42, ⟨x.2, false, 43, 1, ((n.kids.take x.1).map fun k => Cq l f k.toNat).map av⟩)]⟩) (fun x => x.1 ≤ n.kids.length) (fun x => n.kids.length - x.1) (Ai.Fl 25 0 4 42 43 1 rfl rfl Nat.zero_lt_one rfl (by decide) (fun v => Ai.le ⟨(0, v), Nat.zero_le _, rfl⟩ (by simp +contextual -dsimp only [↓SD, SU, simprocAttr]) (by simp +contextual -dsimp only [↓SD, SU, simprocAttr]))) ?_
  rintro ⟨j, u⟩ hj
  simp only at hj
  by_cases hlt : j < n.kids.length
  ·have e2 := getD_map av n.kids j .top hlt
   have hkj := hks _ (List.getElem_mem hlt)
   have ht : n.kids.take (j + 1) = n.kids.take j ++ [n.kids[j]] := List.take_succ_eq_append_getElem hlt
   obtain ⟨m, hm⟩ : ∃ m : Nat, n.kids[j] = m := ⟨n.kids[j].toNat, by omega⟩
   rw [hm] at e2 hkj ht
   have C2 := ih m (by omega) (by omega)
   have hk2 : (n.kids.take j).length = j := by simp; omega
   have ht2 : List.take j (((n.kids.take j).map fun k => Cq l f k.toNat).map av) = ((n.kids.take j).map fun k => Cq l f k.toNat).map av := List.take_of_length_le (by simp; omega)
   simp +contextual -dsimp only [↓SD, SU, simprocAttr, Aa, hlt, e2, Af]
   refine Ac _ C2 ?_
   simp +contextual -dsimp only [↓SD, SU, simprocAttr, Aa, hlt, Mo, Abo, Aar, Ma, Abp, AbZ, hk2, ht2]
   refine ⟨⟨by omega, by unfold maxLen; omega⟩, fun u' => ⟨by omega, Ai.le ⟨(j + 1, u'), ⟨hlt, (by first | omega | (simp only; omega))⟩, rfl⟩ (by simp +contextual -dsimp only [↓SD, SU, simprocAttr, Int.natCast_add]) (by simp +contextual -dsimp only [↓SD, SU, simprocAttr, ht, List.map_append, Int.toNat_natCast])⟩⟩
  ·obtain rfl : j = n.kids.length := by omega
   simp +contextual -dsimp only [↓SD, SU, simprocAttr, Aa, Nat.lt_irrefl, Ab, List.take_length, DT]
   rw [JH, List.take_of_length_le (by simp)]
end Go.Proofs.YtoffpbehgncakaaGreat
set_option linter.unusedVariables false
set_option maxRecDepth 100000
namespace Go.Proofs.YtoffpbehgncakaaGreat
open Go.Proofs.YtoffpbehgncakaaGreat.Av

theorem CU : Tryz.prog.follows .mixedOrders = true := by kernel_rfl

def EW : Ir Tryz.prog 47 [] [] 3 := ⟨_, _, Tryz.func47, CU, by kernel_rfl, AA [] Tryz.progTables (by conv => lhs; cbv) (by kernel_rfl)⟩
def EU : Ir Tryz.prog 20 [] [] 2 := ⟨_, _, Tryz.func20, CU, by kernel_rfl, AA [] Tryz.progTables (by conv => lhs; cbv) (by kernel_rfl)⟩
def IQ : Ir Tryz.prog 6 [] [] 3 := ⟨_, _, Tryz.func6, CU, by kernel_rfl, AA [] Tryz.progTables (by conv => lhs; cbv) (by kernel_rfl)⟩
def IV : Ir Tryz.prog 8 [] [] 3 := ⟨_, _, Tryz.func8, CU, by kernel_rfl, AA [] Tryz.progTables (by conv => lhs; cbv) (by kernel_rfl)⟩
def GU : Ir Tryz.prog 86 [] [] 2 := ⟨_, _, Tryz.func86, CU, by kernel_rfl, AA [] Tryz.progTables (by conv => lhs; cbv) (by kernel_rfl)⟩
def ET : Ir Tryz.prog 48 [] [] 3 := ⟨_, _, Tryz.func48, CU, by kernel_rfl, AA [] Tryz.progTables (by conv => lhs; cbv) (by kernel_rfl)⟩
def DJ : Ir Tryz.prog 22 [] [] 2 := ⟨_, _, Tryz.func22, CU, by kernel_rfl, AA [] Tryz.progTables (by conv => lhs; cbv) (by kernel_rfl)⟩
def GS : Ir Tryz.prog 21 [] [] 2 := ⟨_, _, Tryz.func21, CU, by kernel_rfl, AA [] Tryz.progTables (by conv => lhs; cbv) (by kernel_rfl)⟩
def IG : Ir Tryz.prog 7 [] [] 3 := ⟨_, _, Tryz.func7, CU, by kernel_rfl, AA [] Tryz.progTables (by conv => lhs; cbv) (by kernel_rfl)⟩
end Go.Proofs.YtoffpbehgncakaaGreat
