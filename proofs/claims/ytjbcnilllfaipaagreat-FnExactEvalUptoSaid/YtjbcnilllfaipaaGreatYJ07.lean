/-
 NUMBERS BELOW A BOUND, elements of lists. Conditions: none.
-/
import Derived.Test.YtjbcnilllfaipaaGreatYJ06
import Derived.Test.YtjbcnilllfaipaaGreatRows
import Derived.Test.YtjbcnilllfaipaaGreatYJ00
import Derived.Test.YtjbcnilllfaipaaGreatProg
import Derived.Test.YtjbcnilllfaipaaGreatYAvDraw
set_option linter.unusedVariables false
namespace Go.Proofs.YtjbcnilllfaipaaGreat
open Go.RowKit Go.Proofs.YtjbcnilllfaipaaGreat.Av
open Go.Proofs.YtjbcnilllfaipaaGreat.Av.AVal (av)
open AVal (av)

theorem Ef {α : Type} {l : List α} {k : Nat} (h : k < l.length) (d : α) : l.getD k d = l[k] := by simp [List.getD_eq_getElem?_getD, h]
theorem KE {α : Type} [AVal α] (d : List α) (z : α) {j : Nat} (h : j < d.length) : (d.map av).getD j .top = av (d.getD j z) := by
 rw [getD_map av d j .top h, Ef h]
theorem H9 {α β : Type} (f : α → β) (l : List α) : (l.map f).take l.length = l.map f := by rw [List.take_of_length_le]; simp
def allI (p : Nat → Bool) (n : Nat) : Bool := (List.range n).all p
theorem WY {p : Nat → Bool} {n i : Nat} (hi : i < n) (h : p i = false) : allI p n = false := by
 unfold allI; rw [List.all_eq_false]; exact ⟨i, List.mem_range.2 hi, by simp [h]⟩
theorem PF {p : Nat → Bool} {n : Nat} : allI p n = true ↔ ∀ i, i < n → p i = true := by
 unfold allI; rw [List.all_eq_true]; exact ⟨fun h i hi => h i (List.mem_range.2 hi), fun h i hi => h i (List.mem_range.1 hi)⟩
end Go.Proofs.YtjbcnilllfaipaaGreat
set_option linter.unusedVariables false
namespace Go.Proofs.YtjbcnilllfaipaaGreat
open Go.RowKit Go.Proofs.YtjbcnilllfaipaaGreat.Ml

theorem Ic : CD 26 (List Int) := Fq CF Tryz.underlying26 (by kernel_rfl) (by simp [Rep.n])

end Go.Proofs.YtjbcnilllfaipaaGreat
set_option linter.unusedVariables false
namespace Go.Proofs.YtjbcnilllfaipaaGreat
open Go.RowKit Go.Proofs.YtjbcnilllfaipaaGreat.Ml

structure Bp where
 kind : Int
 n : Int
 s : ByteArray
 kids : List Int
 deriving DecidableEq, Inhabited

def Bp.rep (S : Nat → Prop) (w : World) (cs : List Value) (x : Bp) : Prop := ∃ v3, cs = [Value.int .i64 x.kind, Value.int .i64 x.n, Value.string x.s, v3] ∧ (-9223372036854775808 ≤ x.kind ∧ x.kind ≤ 9223372036854775807) ∧ (-9223372036854775808 ≤ x.n ∧ x.n ≤ 9223372036854775807) ∧ x.s.size ≤ maxLen ∧ Dj S w v3 x.kids
instance : Rep Bp where
 n := 4
 rep := Bp.rep
 len := by rintro _ _ _ _ ⟨v3, rfl, _⟩; rfl
 carry := by rintro _ _ _ _ _ _ ⟨v3, rfl, h0, h1, h2, h3⟩ hS hw; exact ⟨v3, rfl, h0, h1, h2, h3.carry hS hw⟩
theorem Bp.form {S : Nat → Prop} {w : World} {cs : List Value} {x : Bp} (h : Rep.rep S w cs x) : ∃ a3 c3, cs = [Value.int .i64 x.kind, Value.int .i64 x.n, Value.string x.s, Value.slice a3 x.kids.length c3] ∧ (-9223372036854775808 ≤ x.kind ∧ x.kind ≤ 9223372036854775807) ∧ (-9223372036854775808 ≤ x.n ∧ x.n ≤ 9223372036854775807) ∧ x.s.size ≤ maxLen ∧ Dj S w (.slice a3 x.kids.length c3) x.kids := by
 obtain ⟨v3, rfl, h0, h1, h2, h3⟩ := h
 obtain ⟨a3, c3, rfl⟩ := h3.form
 exact ⟨a3, c3, rfl, h0, h1, h2, h3⟩
instance : Ad Bp := ⟨fun x => Ad.bulk x.kind + Ad.bulk x.n + Ad.bulk x.s + Ad.bulk x.kids + 1, fun _ => by omega⟩

structure Pat where
 nodes : List Bp
 deriving DecidableEq, Inhabited

def Pat.rep (S : Nat → Prop) (w : World) (cs : List Value) (x : Pat) : Prop := ∃ v0, cs = [v0] ∧ Dj S w v0 x.nodes
instance : Rep Pat where
 n := 1
 rep := Pat.rep
 len := by rintro _ _ _ _ ⟨v0, rfl, _⟩; rfl
 carry := by rintro _ _ _ _ _ _ ⟨v0, rfl, h0⟩ hS hw; exact ⟨v0, rfl, h0.carry hS hw⟩
theorem Pat.form {S : Nat → Prop} {w : World} {cs : List Value} {x : Pat} (h : Rep.rep S w cs x) : ∃ a0 c0, cs = [Value.slice a0 x.nodes.length c0] ∧ Dj S w (.slice a0 x.nodes.length c0) x.nodes := by
 obtain ⟨v0, rfl, h0⟩ := h
 obtain ⟨a0, c0, rfl⟩ := h0.form
 exact ⟨a0, c0, rfl, h0⟩
instance : Ad Pat := ⟨fun x => Ad.bulk x.nodes + 1, fun _ => by omega⟩

theorem We : CD 218 Bp := ⟨by kernel_rfl, fun {H enc w fuel cs x} h => by
 obtain ⟨xs, m, _, rfl, hlen, hxs, hf⟩ := DataW.trod_struct Tryz.underlying218 h
 have hn : Tryz.prog.cellsOf 218 = 4 := by kernel_rfl
 rw [hn] at hlen
 obtain ⟨c0, t0, rfl, l0⟩ := AK hlen
 obtain ⟨c1, t1, rfl, l1⟩ := AK l0
 obtain ⟨c2, t2, rfl, l2⟩ := AK l1
 obtain ⟨c3, t3, rfl, l3⟩ := AK l2
 obtain rfl := Cu l3
 obtain ⟨y0, s0, rfl, n0⟩ := AK (n := 3) hxs
 obtain ⟨y1, s1, rfl, n1⟩ := AK (n := 2) n0
 obtain ⟨y2, s2, rfl, n2⟩ := AK (n := 1) n1
 obtain ⟨y3, s3, rfl, n3⟩ := AK (n := 0) n2
 obtain rfl := Cu n3
 obtain ⟨z0, e0, b0⟩ := CF.get (cs := [c0]) (x := y0) (by have := hf 0 _ rfl; simpa [CF.n, Rep.n] using this)
 obtain ⟨z1, e1, b1⟩ := CF.get (cs := [c1]) (x := y1) (by have := hf 1 _ rfl; simpa [CF.n, Rep.n] using this)
 obtain ⟨z2, e2, b2⟩ := E9.get (cs := [c2]) (x := y2) (by have := hf 2 _ rfl; simpa [E9.n, Rep.n] using this)
 obtain ⟨z3, e3, b3⟩ := Ic.get (cs := [c3]) (x := y3) (by have := hf 3 _ rfl; simpa [Ic.n, Rep.n] using this)
 obtain ⟨q0, g0⟩ := e0; simp only [List.cons.injEq, and_true] at q0; subst q0
 obtain ⟨q1, g1⟩ := e1; simp only [List.cons.injEq, and_true] at q1; subst q1
 obtain ⟨q2, g2⟩ := e2; simp only [List.cons.injEq, and_true] at q2; subst q2
 obtain ⟨v3, q3, g3⟩ := e3; simp only [List.cons.injEq, and_true] at q3; subst q3
 exact ⟨⟨z0, z1, z2, z3⟩, ⟨c3, rfl, g0, g1, g2, g3⟩, by simp only [Ad.bulk, Rows.uptoBulk, Rows.uptoBulkAll, List.map_cons, List.map_nil] at b0 b1 b2 b3 ⊢; omega⟩⟩

theorem Nf : CD 185 (List Bp) := Fq We Tryz.underlying185 (by kernel_rfl) (by simp [Rep.n])

theorem Aav : CD 187 Pat := ⟨by kernel_rfl, fun {H enc w fuel cs x} h => by
 obtain ⟨xs, m, _, rfl, hlen, hxs, hf⟩ := DataW.trod_struct Tryz.underlying187 h
 have hn : Tryz.prog.cellsOf 187 = 1 := by kernel_rfl
 rw [hn] at hlen
 obtain ⟨c0, t0, rfl, l0⟩ := AK hlen
 obtain rfl := Cu l0
 obtain ⟨y0, s0, rfl, n0⟩ := AK (n := 0) hxs
 obtain rfl := Cu n0
 obtain ⟨z0, e0, b0⟩ := Nf.get (cs := [c0]) (x := y0) (by have := hf 0 _ rfl; simpa [Nf.n, Rep.n] using this)
 obtain ⟨v0, q0, g0⟩ := e0; simp only [List.cons.injEq, and_true] at q0; subst q0
 exact ⟨⟨z0⟩, ⟨c0, rfl, g0⟩, by simp only [Ad.bulk, Rows.uptoBulk, Rows.uptoBulkAll, List.map_cons, List.map_nil] at b0 ⊢; omega⟩⟩

end Go.Proofs.YtjbcnilllfaipaaGreat
set_option linter.unusedVariables false
set_option maxRecDepth 100000
namespace Go.Proofs.YtjbcnilllfaipaaGreat
open Go.Proofs.YtjbcnilllfaipaaGreat.Av

theorem I7 : Tryz.prog.follows .mixedOrders = true := by kernel_rfl

def G9 : Ir Tryz.prog 65 [] [9999] 2 := ⟨_, _, Tryz.func65, I7, by kernel_rfl, Ag [] Tryz.progTables (by conv => lhs; cbv) (by kernel_rfl)⟩
def J6 : Ir Tryz.prog 7 [] [] 1 := ⟨_, _, Tryz.func7, I7, by kernel_rfl, Ag [] Tryz.progTables (by conv => lhs; cbv) (by kernel_rfl)⟩
def Kb : Ir Tryz.prog 11 [] [] 2 := ⟨_, _, Tryz.func11, I7, by kernel_rfl, Ag [] Tryz.progTables (by conv => lhs; cbv) (by kernel_rfl)⟩
end Go.Proofs.YtjbcnilllfaipaaGreat
set_option linter.unusedVariables false
set_option linter.unusedSimpArgs false
set_option maxRecDepth 100000
namespace Go.Proofs.YtjbcnilllfaipaaGreat
open Go.RowKit Go.Proofs.YtjbcnilllfaipaaGreat.Av Go.Proofs.YtjbcnilllfaipaaGreat.Ml
open Go.Proofs.YtjbcnilllfaipaaGreat.Av.AVal (av)

theorem MG (l : List Int) (n : Int) (hx : Ad.bulk l ≤ 1099511627776) (h1 : -1 ≤ n) (h2 : n ≤ 1099511627776) : Lk 65 [.sl (l.map av), .int .i64 n] := by
 have hl := Ao l
 refine G9.H rfl ?_
 simp +contextual -dsimp only [↓SD, SU, simprocAttr, G9, Aa]
 (repeat' (first | intro _ | refine And.intro ?_ ?_))
 all_goals first | omega | (refine Af.post [] ?_; simp +contextual -dsimp only [↓SD, SU, simprocAttr, G9]; exact ⟨_, rfl, rfl, by omega, by omega⟩)

theorem MF (l : List Int) (hx : Ad.bulk l ≤ 1099511627776) : Ap Tryz.prog 7 [.sl (l.map av)] (.sl (l.map av)) := by
 have hl := Ao l
 refine J6.F rfl (by simp; exact Aq l) (Aq l) ?_
 simp +contextual -dsimp only [↓SD, SU, simprocAttr, J6, Aa]
 refine ⟨by omega, fun v => ?_⟩
 refine Al (X := Nat) (fun k => ⟨[(0, .sl (l.map av)), (3, .row 7 v l.length), (4, .int .i64 k)], [(7, ⟨v, false, 3, 1, FD l (AV.int .i64 0) k⟩)]⟩) (fun k => k ≤ l.length) (fun k => l.length - k) 0 (Nat.zero_le _) (by simp +contextual -dsimp only [↓SD, SU, simprocAttr]) (by simp +contextual -dsimp only [↓SD, SU, simprocAttr, Eg]) ?_
 intro k hk
 by_cases hlt : k < l.length
 ·have e := getD_map av l k .top hlt
  have e1 := Cv (AV.int .i64 0) hk
  have e2 := EO (AV.int .i64 0) hlt .top
  have e3 := EN (z := (AV.int .i64 0)) hlt rfl
  have hbk : Ad.bulk l[k] ≤ 1099511627776 := by have := AW (List.getElem_mem hlt); omega
  rw [Bo] at e3
  simp +contextual -dsimp only [↓SD, SU, simprocAttr, Aa, hlt, e, Bo, e1, e2, e3]
  refine ⟨by omega, WZ (k + 1) hlt (by first | omega | (simp only; omega)) (by simp +contextual -dsimp only [↓SD, SU, simprocAttr, Int.natCast_add]) (by simp +contextual -dsimp only [↓SD, SU, simprocAttr])⟩
 ·obtain rfl : k = l.length := by omega
  have e1 := Cv (AV.int .i64 0) hk
  simp +contextual -dsimp only [↓SD, SU, simprocAttr, Aa, Nat.lt_irrefl, Eh, AA, List.take_length]
  try simp [List.take_of_length_le]

theorem MU (l : List Int) (hx : Ad.bulk l ≤ 1099511627776) : Ap Tryz.prog 11 [.sl (l.map av), .sl (l.map av)] (.bool true) := by
 have hl := Ao l
 refine Kb.F rfl (by simp; exact Aq l) (Ac.bool _) ?_
 simp +contextual -dsimp only [↓SD, SU, simprocAttr, Kb, Aa]
 refine Al (X := Nat) (fun k => ⟨[(0, .sl (l.map av)), (1, .sl (l.map av)), (5, .int .i64 k)], []⟩) (fun k => k ≤ l.length) (fun k => l.length - k) 0 (Nat.zero_le _) (by simp +contextual -dsimp only [↓SD, SU, simprocAttr]) trivial ?_
 intro k hk
 by_cases hlt : k < l.length
 ·have e := getD_map av l k .top hlt
  have hbk : Ad.bulk l[k] ≤ 1099511627776 := by have := AW (List.getElem_mem hlt); omega
  simp +contextual -dsimp only [↓SD, SU, simprocAttr, Aa, hlt, e, Bo]
  exact ⟨by omega, WZ (k + 1) hlt (by first | omega | (simp only; omega)) (by simp +contextual -dsimp only [↓SD, SU, simprocAttr, Int.natCast_add]) trivial⟩
 ·obtain rfl : k = l.length := by omega
  simp +contextual -dsimp only [↓SD, SU, simprocAttr, Aa, Nat.lt_irrefl]

end Go.Proofs.YtjbcnilllfaipaaGreat
set_option linter.unusedVariables false
set_option maxRecDepth 100000
namespace Go.Proofs.YtjbcnilllfaipaaGreat
open Go.Proofs.YtjbcnilllfaipaaGreat.Av

theorem Dl : Tryz.prog.follows .mixedOrders = true := by kernel_rfl

def Fj : Ir Tryz.prog 157 [(15, 7777)] [9999] 2 := ⟨_, _, Tryz.func157, Dl, by kernel_rfl, Ag [] Tryz.progTables (by conv => lhs; cbv) (by kernel_rfl)⟩
def Jr : Ir Tryz.prog 159 [] [] 1 := ⟨_, _, Tryz.func159, Dl, by kernel_rfl, Ag [] Tryz.progTables (by conv => lhs; cbv) (by kernel_rfl)⟩
def Jv : Ir Tryz.prog 163 [] [] 2 := ⟨_, _, Tryz.func163, Dl, by kernel_rfl, Ag [] Tryz.progTables (by conv => lhs; cbv) (by kernel_rfl)⟩
def D4 : Ir Tryz.prog 139 [(23, 7777)] [9999] 2 := ⟨_, _, Tryz.func139, Dl, by kernel_rfl, Ag [] Tryz.progTables (by conv => lhs; cbv) (by kernel_rfl)⟩
def Iw : Ir Tryz.prog 142 [] [] 1 := ⟨_, _, Tryz.func142, Dl, by kernel_rfl, Ag [] Tryz.progTables (by conv => lhs; cbv) (by kernel_rfl)⟩
def IF : Ir Tryz.prog 155 [] [] 2 := ⟨_, _, Tryz.func155, Dl, by kernel_rfl, Ag [] Tryz.progTables (by conv => lhs; cbv) (by kernel_rfl)⟩
def Ga : Ir Tryz.prog 112 [(8, 7777)] [9999] 2 := ⟨_, _, Tryz.func112, Dl, by kernel_rfl, Ag [] Tryz.progTables (by conv => lhs; cbv) (by kernel_rfl)⟩
def KL : Ir Tryz.prog 121 [] [] 1 := ⟨_, _, Tryz.func121, Dl, by kernel_rfl, Ag [] Tryz.progTables (by conv => lhs; cbv) (by kernel_rfl)⟩
def KN : Ir Tryz.prog 137 [] [] 2 := ⟨_, _, Tryz.func137, Dl, by kernel_rfl, Ag [] Tryz.progTables (by conv => lhs; cbv) (by kernel_rfl)⟩
end Go.Proofs.YtjbcnilllfaipaaGreat
