/-
 hit OF THE PROGRAM, by its abstract text. Conditions: none.
-/
import Derived.Test.YteeiaaogmjbcjaaGreatKJ11
import Derived.Test.YteeiaaogmjbcjaaGreatKJ12
import Derived.Test.YteeiaaogmjbcjaaGreatProg
import Derived.Test.YteeiaaogmjbcjaaGreatKAvDraw
set_option linter.unusedVariables false
set_option linter.unusedSimpArgs false
set_option maxRecDepth 100000
namespace Go.Proofs.YteeiaaogmjbcjaaGreat
open Go.RowKit Go.Proofs.YteeiaaogmjbcjaaGreat.Av Go.Proofs.YteeiaaogmjbcjaaGreat.Ml
open Go.Proofs.YteeiaaogmjbcjaaGreat.Av.AVal (av)

theorem RR (l : List AY) (hk : ∀ i, i < l.length → ∀ k ∈ A5 l i, (i : Int) < k ∧ k < l.length) (hx : AB.bulk l ≤ 1048576) : ∀ (f i : Nat), i < l.length → l.length - i ≤ f → AG Tryz.prog 32 [.sl (l.map av), .int .i64 i] (av (BD (dhd l) (A5 l) f i)) := by
 intro f
 induction f with
 | zero => intro i hi hf; omega
 | succ f ih =>
  intro i hi hf
  have hl := Bh l
  have e := getD_map av l i .top hi
  have hs := (DK hx i hi).1
  have hK : A5 l i = l[i].kids := by rw [A5, Be hi]
  have hH : dhd l i = ⟨l[i].kind, l[i].n, l[i].s⟩ := by rw [dhd, Be hi]
  have hg : BD (dhd l) (A5 l) (f + 1) i = .mk ⟨l[i].kind, l[i].n, l[i].s⟩ (l[i].kids.map fun k => BD (dhd l) (A5 l) f k.toNat) := by rw [BD, hK, hH]
  have hks := hk i hi
  rw [hK] at hks
  refine Ex.F rfl (by simp; exact ⟨Aw l, Ea _⟩) (AVal.clean _) ?_
  rw [hg]
  clear hg hK hH
  generalize l[i] = n at *
  simp +contextual -dsimp only [↓SD, SU, simprocAttr, -Nat.reduceMul, Ex, Aa, hi, e, Bm]
  intro w5 w
  refine Cm (X := Nat × Nat) (fun x => ⟨[(0, .sl (l.map av)), (6, .ptr 20 w 0 0), (22, .sl (n.kids.map av)), (23, .int .i64 n.kids.length), (24, .int .i64 x.1)], [(20, ⟨w, false, 125, 4, [.agg [.int .i64 n.kind, .int .i64 n.n, .str n.s, .row 37 x.2 x.1]]⟩), (37, ⟨x.2, false, 73, 1, ((n.kids.take x.1).map fun k => BD (dhd l) (A5 l) f k.toNat).map av⟩)]⟩) (fun x => x.1 ≤ n.kids.length) (fun x => n.kids.length - x.1) (Ah.EF 20 0 3 37 73 1 rfl rfl Nat.zero_lt_one rfl (by decide) (fun v => Ah.le ⟨(0, v), Nat.zero_le _, rfl⟩ (by simp +contextual -dsimp only [↓SD, SU, simprocAttr, -Nat.reduceMul]) (by simp +contextual -dsimp only [↓SD, SU, simprocAttr, -Nat.reduceMul]))) ?_
  rintro ⟨j, u⟩ hj
  simp only at hj
  by_cases hlt : j < n.kids.length
  ·have e2 := getD_map av n.kids j .top hlt
   have hkj := hks _ (List.getElem_mem hlt)
   have ht : n.kids.take (j + 1) = n.kids.take j ++ [n.kids[j]] := List.take_succ_eq_append_getElem hlt
   obtain ⟨m, hm⟩ : ∃ m : Nat, n.kids[j] = m := ⟨n.kids[j].toNat, by omega⟩
   rw [hm] at e2 hkj ht
   have C2 := ih m (by omega) (by omega)
   have hk2 : (n.kids.take j).length = j := by simp; omega
   have ht2 : List.take j (((n.kids.take j).map fun k => BD (dhd l) (A5 l) f k.toNat).map av) = ((n.kids.take j).map fun k => BD (dhd l) (A5 l) f k.toNat).map av := List.take_of_length_le (by simp; omega)
   simp +contextual -dsimp only [↓SD, SU, simprocAttr, -Nat.reduceMul, Aa, hlt, e2, Af]
   refine Ae _ C2 ?_
   simp +contextual -dsimp only [↓SD, SU, simprocAttr, -Nat.reduceMul, Aa, hlt, C7, E0, D6, Cg, E1, GZ, hk2, ht2]
   refine ⟨⟨by omega, by unfold maxLen; omega⟩, fun u' => ⟨by omega, Ah.le ⟨(j + 1, u'), ⟨hlt, (by first | omega | (simp only; omega))⟩, rfl⟩ (by simp +contextual -dsimp only [↓SD, SU, simprocAttr, -Nat.reduceMul, Int.natCast_add]) (by simp +contextual -dsimp only [↓SD, SU, simprocAttr, -Nat.reduceMul, ht, List.map_append, Int.toNat_natCast])⟩⟩
  ·obtain rfl : j = n.kids.length := by omega
   simp +contextual -dsimp only [↓SD, SU, simprocAttr, -Nat.reduceMul, Aa, Nat.lt_irrefl, Ab, List.take_length, KY]
   rw [El, List.take_of_length_le (by simp)]

def Ado (l : List Px) (x : AV) (hp : Hp) : Prop := (l = [] ∧ x = .Aq ∧ hp = []) ∨ ∃ v, x = .row 24 v l.length ∧ hp = [(24, ⟨v, false, 73, 1, l.map av⟩)]
def YV (acc : List Px) (o : Option (List Px)) (r : AV) (hp' : Hp) : Prop := match o with
 | none => r = .tup [.Aq, .bool false] ∧ hp' = []
 | some m => ∃ x, Ado (acc ++ m) x hp' ∧ r = .tup [x, .bool true]
structure HtS where
 j : Nat
 a : List Px
 x : AV
 hp : Hp
theorem Adp : ∀ (q d : Px) (acc : List Px) (x : AV) (hp : Hp), Ado acc x hp → acc.length + pxN q ≤ 1048576 → AO Tryz.prog 30 [av q, av d, x] hp (YV acc (DX q d)) := by
 refine Px.ind fun n ks ih d acc x hp hx hb => ?_
 have e : DX (.mk n ks) d = if n.kind = 1 then some [] else if n.kind = 2 then some [d] else if n.kind = d.hd.kind ∧ n.n = d.hd.n ∧ n.s = d.hd.s ∧ ks.length = d.kids.length then B1 ks d.kids else none := by rw [DX]
 rw [e]
 have ec : pxN (.mk n ks) = 1 + AZ ks := by rw [pxN]
 rw [ec] at hb
 refine CX.H rfl ?_
 by_cases h1 : n.kind = 1
 ·rw [if_pos h1]
  rcases hx with ⟨rfl, rfl, rfl⟩ | ⟨v, rfl, rfl⟩
  ·simp +contextual -dsimp only [↓SD, SU, simprocAttr, -Nat.reduceMul, CX, El, h1]
   refine Ah.post [] ?_
   simp +contextual -dsimp only [↓SD, SU, simprocAttr, -Nat.reduceMul]
   exact ⟨_, .inl ⟨rfl, rfl, rfl⟩, rfl⟩
  ·simp +contextual -dsimp only [↓SD, SU, simprocAttr, -Nat.reduceMul, CX, El, h1]
   refine Ah.post [(24, ⟨v, false, 73, 1, acc.map av⟩)] ?_
   simp +contextual -dsimp only [↓SD, SU, simprocAttr, -Nat.reduceMul, false_and]
   exact ⟨_, .inr ⟨v, rfl, by rw [List.append_nil]⟩, by rw [List.append_nil]⟩
 rw [if_neg h1]
 by_cases h2 : n.kind = 2
 ·rw [if_pos h2]
  rcases hx with ⟨rfl, rfl, rfl⟩ | ⟨v, rfl, rfl⟩
  ·simp +contextual -dsimp only [↓SD, SU, simprocAttr, -Nat.reduceMul, CX, El, h1, h2, C7, E0, D6, Cg, E1, GZ]
   refine ⟨⟨by omega, by unfold maxLen; omega⟩, fun v => ?_⟩
   refine Ah.post [(24, ⟨v, false, 73, 1, [av d]⟩)] ?_
   simp +contextual -dsimp only [↓SD, SU, simprocAttr, -Nat.reduceMul, false_and]
   exact ⟨_, .inr ⟨v, rfl, rfl⟩, rfl⟩
  ·have t0 : List.take acc.length (acc.map (av : Px → AV)) = acc.map av := List.take_of_length_le (by simp)
   simp +contextual -dsimp only [↓SD, SU, simprocAttr, -Nat.reduceMul, CX, El, h1, h2, C7, E0, D6, Cg, E1, GZ, Aa, t0]
   refine ⟨⟨by omega, by unfold maxLen; omega⟩, fun v' => ?_⟩
   refine Ah.post [(24, ⟨v', false, 73, 1, (acc ++ [d]).map av⟩)] ?_
   simp +contextual -dsimp only [↓SD, SU, simprocAttr, -Nat.reduceMul, false_and, List.map_append]
   exact ⟨_, .inr ⟨v', rfl, by simp⟩, by simp⟩
 rw [if_neg h2]
 have ed := Abx d
 by_cases c1 : d.hd.kind = n.kind
 case neg =>
  have d1 : ¬ (n.kind = d.hd.kind) := fun h => c1 h.symm
  rw [if_neg (fun h => c1 h.1.symm)]
  simp +contextual -dsimp only [↓SD, SU, simprocAttr, -Nat.reduceMul, CX, El, ed, h1, h2, c1, d1, Aa]
  refine Ah.post [] ?_
  simp +contextual -dsimp only [↓SD, SU, simprocAttr, -Nat.reduceMul]
  exact ⟨rfl, rfl⟩
 by_cases c2 : d.hd.n = n.n
 case neg =>
  have d2 : ¬ (n.n = d.hd.n) := fun h => c2 h.symm
  rw [if_neg (fun h => c2 h.2.1.symm)]
  simp +contextual -dsimp only [↓SD, SU, simprocAttr, -Nat.reduceMul, CX, El, ed, h1, h2, c1, c2, d2, Aa]
  refine Ah.post [] ?_
  simp +contextual -dsimp only [↓SD, SU, simprocAttr, -Nat.reduceMul]
  exact ⟨rfl, rfl⟩
 by_cases c3 : d.hd.s = n.s
 case neg =>
  have d3 : ¬ (n.s = d.hd.s) := fun h => c3 h.symm
  rw [if_neg (fun h => c3 h.2.2.1.symm)]
  simp +contextual -dsimp only [↓SD, SU, simprocAttr, -Nat.reduceMul, CX, El, ed, h1, h2, c1, c2, c3, d3, Aa]
  refine Ah.post [] ?_
  simp +contextual -dsimp only [↓SD, SU, simprocAttr, -Nat.reduceMul]
  exact ⟨rfl, rfl⟩
 by_cases c4 : d.kids.length = ks.length
 case neg =>
  have d4 : ¬ (ks.length = d.kids.length) := fun h => c4 h.symm
  rw [if_neg (fun h => c4 h.2.2.2.symm)]
  simp +contextual -dsimp only [↓SD, SU, simprocAttr, -Nat.reduceMul, CX, El, ed, h1, h2, c1, c2, c3, c4, d4, Aa]
  refine Ah.post [] ?_
  simp +contextual -dsimp only [↓SD, SU, simprocAttr, -Nat.reduceMul]
  exact ⟨rfl, rfl⟩
 rw [if_pos ⟨c1.symm, c2.symm, c3.symm, c4.symm⟩]
 simp +contextual -dsimp only [↓SD, SU, simprocAttr, -Nat.reduceMul, CX, El, ed, h1, h2, c1, c2, c3, c4, Aa]
 refine AF (X := HtS) (fun q => ⟨[(1, .obj [.int .i64 d.hd.kind, .int .i64 d.hd.n, .str d.hd.s, .sl (d.kids.map av)]), (2, q.x), (72, .sl (ks.map av)), (73, .int .i64 ks.length), (74, .int .i64 q.j)], q.hp⟩) (fun q => q.j ≤ ks.length ∧ B1 (ks.take q.j) (d.kids.take q.j) = some q.a ∧ Ado (acc ++ q.a) q.x q.hp) (fun q => ks.length - q.j) ⟨0, [], x, hp⟩ ⟨Nat.zero_le _, by rw [List.take_zero, B1], by rw [List.append_nil]; exact hx⟩ (by simp +contextual -dsimp only [↓SD, SU, simprocAttr, -Nat.reduceMul, c1, c2, c3]) (by rcases hx with ⟨_, _, rfl⟩ | ⟨v, _, rfl⟩ <;> simp +contextual -dsimp only [↓SD, SU, simprocAttr, -Nat.reduceMul]) ?_
 rintro ⟨j, a, y, hq⟩ ⟨hj, ha, hl⟩
 dsimp only at hj ha hl ⊢
 have hlen : ks.length = d.kids.length := c4.symm
 have hkl := Hv ks
 by_cases hlt : j < ks.length
 ·have e1 := getD_map av ks j .top hlt
  have e2 := getD_map av d.kids j .top (by omega)
  have hbn : (acc ++ a).length + pxN ks[j] ≤ 1048576 := by
   have b1 := JL ha
   have b2 := Ep ks j hlt
   rw [List.length_append]; omega
  have C := ih ks[j] (List.getElem_mem hlt) (d.kids[j]'(by omega)) (acc ++ a) y hq hl hbn
  have hst := Ol hlen hlt
  rw [ha] at hst
  simp only at hst
  rcases hl with ⟨z, rfl, rfl⟩ | ⟨v, rfl, rfl⟩
  ·simp +contextual -dsimp only [↓SD, SU, simprocAttr, -Nat.reduceMul, hlt, Aa, e1, e2, C7, E0, D6, Cg, E1, GZ, c4]
   refine Ac [] C (by simp +contextual -dsimp only [↓SD, SU, simprocAttr, -Nat.reduceMul, C7, E0, D6, Cg, E1, GZ, false_and]) ?_
   rintro r hp' hr
   cases hh : DX ks[j] (d.kids[j]'(by omega)) with
   | none =>
    rw [hh] at hr hst
    obtain ⟨rfl, rfl⟩ := hr
    simp +contextual -dsimp only [↓SD, SU, simprocAttr, -Nat.reduceMul]
    refine Ah.post [] ?_
    simp +contextual -dsimp only [↓SD, SU, simprocAttr, -Nat.reduceMul]
    rw [Om hlen (by omega) hst]
    exact ⟨rfl, rfl⟩
   | some b =>
    rw [hh] at hr hst
    obtain ⟨y', hy', rfl⟩ := hr
    have hy2 := hy'
    rw [List.append_assoc] at hy2
    rcases hy' with ⟨z', rfl, rfl⟩ | ⟨v', rfl, rfl⟩
    ·simp +contextual -dsimp only [↓SD, SU, simprocAttr, -Nat.reduceMul]
     exact ⟨by omega, Ah.le ⟨⟨j + 1, a ++ b, .Aq, []⟩, ⟨⟨hlt, hst, hy2⟩, (by first | omega | (simp only; omega))⟩, rfl⟩ (by simp +contextual -dsimp only [↓SD, SU, simprocAttr, -Nat.reduceMul, Int.natCast_add]) (by simp +contextual -dsimp only [↓SD, SU, simprocAttr, -Nat.reduceMul])⟩
    ·simp +contextual -dsimp only [↓SD, SU, simprocAttr, -Nat.reduceMul]
     exact ⟨by omega, Ah.le ⟨⟨j + 1, a ++ b, .row 24 v' (acc ++ a ++ b).length, [(24, ⟨v', false, 73, 1, (acc ++ a ++ b).map av⟩)]⟩, ⟨⟨hlt, hst, hy2⟩, (by first | omega | (simp only; omega))⟩, rfl⟩ (by simp +contextual -dsimp only [↓SD, SU, simprocAttr, -Nat.reduceMul, Int.natCast_add]) (by simp +contextual -dsimp only [↓SD, SU, simprocAttr, -Nat.reduceMul])⟩
  ·simp +contextual -dsimp only [↓SD, SU, simprocAttr, -Nat.reduceMul, hlt, Aa, e1, e2, C7, E0, D6, Cg, E1, GZ, c4]
   refine Ac [24] C (by simp +contextual -dsimp only [↓SD, SU, simprocAttr, -Nat.reduceMul, C7, E0, D6, Cg, E1, GZ, false_and]) ?_
   rintro r hp' hr
   cases hh : DX ks[j] (d.kids[j]'(by omega)) with
   | none =>
    rw [hh] at hr hst
    obtain ⟨rfl, rfl⟩ := hr
    simp +contextual -dsimp only [↓SD, SU, simprocAttr, -Nat.reduceMul]
    refine Ah.post [] ?_
    simp +contextual -dsimp only [↓SD, SU, simprocAttr, -Nat.reduceMul]
    rw [Om hlen (by omega) hst]
    exact ⟨rfl, rfl⟩
   | some b =>
    rw [hh] at hr hst
    obtain ⟨y', hy', rfl⟩ := hr
    have hy2 := hy'
    rw [List.append_assoc] at hy2
    rcases hy' with ⟨z', rfl, rfl⟩ | ⟨v', rfl, rfl⟩
    ·simp +contextual -dsimp only [↓SD, SU, simprocAttr, -Nat.reduceMul]
     exact ⟨by omega, Ah.le ⟨⟨j + 1, a ++ b, .Aq, []⟩, ⟨⟨hlt, hst, hy2⟩, (by first | omega | (simp only; omega))⟩, rfl⟩ (by simp +contextual -dsimp only [↓SD, SU, simprocAttr, -Nat.reduceMul, Int.natCast_add]) (by simp +contextual -dsimp only [↓SD, SU, simprocAttr, -Nat.reduceMul])⟩
    ·simp +contextual -dsimp only [↓SD, SU, simprocAttr, -Nat.reduceMul]
     exact ⟨by omega, Ah.le ⟨⟨j + 1, a ++ b, .row 24 v' (acc ++ a ++ b).length, [(24, ⟨v', false, 73, 1, (acc ++ a ++ b).map av⟩)]⟩, ⟨⟨hlt, hst, hy2⟩, (by first | omega | (simp only; omega))⟩, rfl⟩ (by simp +contextual -dsimp only [↓SD, SU, simprocAttr, -Nat.reduceMul, Int.natCast_add]) (by simp +contextual -dsimp only [↓SD, SU, simprocAttr, -Nat.reduceMul])⟩
 ·obtain rfl : j = ks.length := by omega
  rw [List.take_length, hlen, List.take_length] at ha
  rw [ha]
  rcases hl with ⟨z, rfl, rfl⟩ | ⟨v, rfl, rfl⟩
  ·simp +contextual -dsimp only [↓SD, SU, simprocAttr, -Nat.reduceMul, Nat.lt_irrefl]
   refine Ah.post [] ?_
   simp +contextual -dsimp only [↓SD, SU, simprocAttr, -Nat.reduceMul]
   exact ⟨_, .inl ⟨z, rfl, rfl⟩, rfl⟩
  ·simp +contextual -dsimp only [↓SD, SU, simprocAttr, -Nat.reduceMul, Nat.lt_irrefl]
   refine Ah.post [(24, ⟨v, false, 73, 1, (acc ++ a).map av⟩)] ?_
   simp +contextual -dsimp only [↓SD, SU, simprocAttr, -Nat.reduceMul, false_and]
   exact ⟨_, .inr ⟨v, rfl, rfl⟩, rfl⟩
end Go.Proofs.YteeiaaogmjbcjaaGreat
set_option linter.unusedVariables false
set_option maxRecDepth 100000
namespace Go.Proofs.YteeiaaogmjbcjaaGreat
open Go.Proofs.YteeiaaogmjbcjaaGreat.Av

theorem Fb : Tryz.prog.follows .mixedOrders = true := by kernel_rfl

def FV : Ir Tryz.prog 65 [(43, 7777)] [9999, 11] 2 := ⟨_, _, Tryz.func65, Fb, by kernel_rfl, Ay [] Tryz.progTables (by conv => lhs; cbv) (by kernel_rfl)⟩
def JG : Ir Tryz.prog 33 [(10, 7777)] [] 1 := ⟨_, _, Tryz.func33, Fb, by kernel_rfl, Ay [] Tryz.progTables (by conv => lhs; cbv) (by kernel_rfl)⟩
def Hc : Ir Tryz.prog 7 [(26, 7777)] [9999] 2 := ⟨_, _, Tryz.func7, Fb, by kernel_rfl, Ay [] Tryz.progTables (by conv => lhs; cbv) (by kernel_rfl)⟩
def GJ : Ir Tryz.prog 46 [(9, 7777)] [] 2 := ⟨_, _, Tryz.func46, Fb, by kernel_rfl, Ay [] Tryz.progTables (by conv => lhs; cbv) (by kernel_rfl)⟩
def HL : Ir Tryz.prog 13 [] [] 2 := ⟨_, _, Tryz.func13, Fb, by kernel_rfl, Ay [] Tryz.progTables (by conv => lhs; cbv) (by kernel_rfl)⟩
end Go.Proofs.YteeiaaogmjbcjaaGreat
