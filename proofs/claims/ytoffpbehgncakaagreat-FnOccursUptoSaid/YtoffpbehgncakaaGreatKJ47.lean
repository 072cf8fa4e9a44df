/-
 WHO BINDS A NAME IN A NODE'S CHILD, AND HOW OFTEN A NAME IS FREE, of the program and of the reference, by abstract texts. Conditions: none.
-/
import Derived.Test.YtoffpbehgncakaaGreatKJ45
import Derived.Test.YtoffpbehgncakaaGreatKJ46
import Derived.Test.YtoffpbehgncakaaGreatKPgmW2
import Derived.Test.YtoffpbehgncakaaGreatProg
import Derived.Test.YtoffpbehgncakaaGreatKAvDraw
set_option linter.unusedVariables false
set_option linter.unusedSimpArgs false
set_option maxRecDepth 100000
namespace Go.Proofs.YtoffpbehgncakaaGreat
open Go.RowKit Go.Proofs.YtoffpbehgncakaaGreat.Av Go.Proofs.YtoffpbehgncakaaGreat.Ml
open Go.Proofs.YtoffpbehgncakaaGreat.Av.AVal (av)

def hasName (q : Pat) (s : ByteArray) : Bool := (varsOf q.nodes).any fun x => decide (s = x)
def E4 (n : Node) (i : Nat) (s : ByteArray) : Bool :=
 if n.kind = 5 ∨ n.kind = 8 then decide (n.s = s)
 else if n.kind = 7 ∨ n.kind = 15 then decide ((i : Int) = 1) && decide (n.s = s)
 else if n.kind = 13 then decide (0 < (i : Int)) && hasName (n.AL.getD (i - 1) default) s
 else false
mutual
def Ib (s : ByteArray) : Tr → Nat
 | .mk n ks => if n.kind = 3 then (if n.s = s then 1 else 0) else I3 s n 0 ks
def I3 (s : ByteArray) (n : Node) : Nat → List Tr → Nat
 | _, [] => 0
 | i, t :: ts => (if E4 n i s then 0 else Ib s t) + I3 s n (i + 1) ts
end
theorem Tj {s : ByteArray} {n : Node} : ∀ {ks : List Tr} {i : Nat}, (∀ k ∈ ks, Ib s k ≤ k.size) → I3 s n i ks ≤ Tr.EJ ks
 | [], i, _ => by rw [I3]; exact Nat.zero_le _
 | t :: ts, i, h => by
  rw [I3, Tr.EJ]
  have h1 := h t (by simp)
  have h2 := Tj (s := s) (n := n) (ks := ts) (i := i + 1) fun k hk => h k (by simp [hk])
  split <;> omega
theorem W9 (s : ByteArray) : ∀ t, Ib s t ≤ t.size := Tr.ind fun n ks ih => by
 rw [Ib, Tr.size]
 have := Tj (s := s) (n := n) (ks := ks) (i := 0) ih
 repeat' split
 all_goals omega

theorem Sr (q : Pat) (s : ByteArray) (hx : AE.bulk q ≤ 1099511627776) : AH Tryz.prog 86 [av q, .str s] (.bool (hasName q s)) := by
 obtain ⟨l⟩ := q
 have hl := A2 l
 have hb : AE.bulk l + 1 ≤ 1099511627776 := hx
 refine GU.F rfl (by simp; exact ⟨AVal.clean _, Ap.str _⟩) (Ap.bool _) ?_
 simp +contextual -dsimp only [↓SD, SU, simprocAttr, GU, Ed, Aa]
 refine AB (X := Nat) (fun k => ⟨[(1, .str s), (8, .sl (l.map av)), (9, .int .i64 l.length), (10, .int .i64 k)], []⟩) (fun k => k ≤ l.length ∧ ((varsOf (l.take k)).any fun x => decide (s = x)) = false) (fun k => l.length - k) 0 ⟨Nat.zero_le _, rfl⟩ (by simp +contextual -dsimp only [↓SD, SU, simprocAttr]) trivial ?_
 rintro k ⟨hk, hp⟩
 by_cases hlt : k < l.length
 ·have e := getD_map av l k .top hlt
  have hv := Ie hlt
  have hm := List.getElem_mem hlt
  have hin : l[k].kind = 2 → s = l[k].s → hasName ⟨l⟩ s = true := fun h1 h2 => by
   simp only [hasName, List.any_eq_true, decide_eq_true_eq]
   exact ⟨l[k].s, by simp only [varsOf, List.mem_filterMap]; exact ⟨l[k], hm, by rw [if_pos h1]⟩, h2⟩
  generalize l[k] = a at *
  simp +contextual -dsimp only [↓SD, SU, simprocAttr, Aa, hlt, e, Bw]
  (repeat' (first | intro _ | refine And.intro ?_ ?_))
  all_goals first | omega | skip
  ·rename_i h1 h2
   rw [hin h1 h2.symm]
  ·rename_i h1 h2
   exact Ai.le ⟨k + 1, ⟨⟨hlt, by rw [hv, if_pos h1, List.any_append, hp]; simp [Ne.symm h2]⟩, (by first | omega | (simp only; omega))⟩, rfl⟩ (by simp +contextual -dsimp only [↓SD, SU, simprocAttr, Int.natCast_add]) trivial
  ·rename_i h1
   exact Ai.le ⟨k + 1, ⟨⟨hlt, by rw [hv, if_neg h1, List.append_nil, hp]⟩, (by first | omega | (simp only; omega))⟩, rfl⟩ (by simp +contextual -dsimp only [↓SD, SU, simprocAttr, Int.natCast_add]) trivial
 ·obtain rfl : k = l.length := by omega
  rw [List.take_length] at hp
  simp +contextual -dsimp only [↓SD, SU, simprocAttr, Aa, Nat.lt_irrefl]
  simp only [hasName, hp]

theorem ZY (n : Node) (ks : List Tr) (i : Nat) (s : ByteArray) (hn : AE.bulk n ≤ 1099511627776) (hi : i ≤ 1099511627776) (h13 : n.kind = 13 → i ≤ n.AL.length) : AH Tryz.prog 47 [av (Tr.mk n ks), .int .i64 i, .str s] (.bool (E4 n i s)) := by
 refine EW.F rfl (by simp; exact ⟨AVal.clean _, Cr _, Ap.str _⟩) (Ap.bool _) ?_
 by_cases h : n.kind = 13 ∧ 0 < i
 ·obtain ⟨h1, h2⟩ := h
  obtain ⟨j, rfl⟩ : ∃ j, i = j + 1 := ⟨i - 1, by omega⟩
  have hlt : j < n.AL.length := by have := h13 h1; omega
  have hj : ((j + 1 : Nat) : Int) - 1 = j := by omega
  have hj0 : (0 : Int) < ((j + 1 : Nat) : Int) := by omega
  have e := getD_map av n.AL j .top hlt
  have hb : AE.bulk n = AE.bulk n.kind + AE.bulk n.pos + AE.bulk n.n + AE.bulk n.s + AE.bulk n.kids + AE.bulk n.AL + 1 := rfl
  have hm := CY (List.getElem_mem hlt)
  have hd : n.AL.getD j default = n.AL[j] := by simp [List.getD_eq_getElem?_getD, hlt]
  have hv : E4 n (j + 1) s = hasName n.AL[j] s := by simp [E4, h1, hlt]
  have hq : AE.bulk n.AL[j] = AE.bulk n.AL[j].nodes + 1 := rfl
  have hl := Q8 n.AL[j]
  have C1 := R1 n.AL[j].nodes (by omega)
  have C2 := EH (varsOf n.AL[j].nodes) s (by omega)
  rw [hv]
  clear hv
  generalize n.AL[j] = q at *
  simp +contextual -dsimp only [↓SD, SU, simprocAttr, EW, JH, Aa, h1, hj, hj0, hlt, e, Ed]
  (repeat' (first | intro _ | refine And.intro ?_ ?_))
  all_goals first | omega | skip
  refine Ac _ C1 ?_
  simp +contextual -dsimp only [↓SD, SU, simprocAttr]
  refine Ac _ C2 ?_
  simp +contextual -dsimp only [↓SD, SU, simprocAttr, hasName]
 ·simp +contextual -dsimp only [↓SD, SU, simprocAttr, EW, JH, Aa]
  (repeat' (first | intro _ | refine And.intro ?_ ?_))
  all_goals first | omega | (exact absurd ⟨‹_›, by omega⟩ h) | (simp [E4, *]; done) | (simp [E4, *]; omega) | trace_state
theorem Sq (n : Node) (i : Nat) (s : ByteArray) (hn : AE.bulk n ≤ 1099511627776) (hi : i ≤ 1099511627776) (h13 : n.kind = 13 → i ≤ n.AL.length) : AH Tryz.prog 48 [av n, .int .i64 i, .str s] (.bool (E4 n i s)) := by
 refine ET.F rfl (by simp; exact ⟨AVal.clean _, Cr _, Ap.str _⟩) (Ap.bool _) ?_
 by_cases h : n.kind = 13 ∧ 0 < i
 ·obtain ⟨h1, h2⟩ := h
  obtain ⟨j, rfl⟩ : ∃ j, i = j + 1 := ⟨i - 1, by omega⟩
  have hlt : j < n.AL.length := by have := h13 h1; omega
  have hj : ((j + 1 : Nat) : Int) - 1 = j := by omega
  have hj0 : (0 : Int) < ((j + 1 : Nat) : Int) := by omega
  have e := getD_map av n.AL j .top hlt
  have hb : AE.bulk n = AE.bulk n.kind + AE.bulk n.pos + AE.bulk n.n + AE.bulk n.s + AE.bulk n.kids + AE.bulk n.AL + 1 := rfl
  have hm := CY (List.getElem_mem hlt)
  have hv : E4 n (j + 1) s = hasName n.AL[j] s := by simp [E4, h1, hlt]
  have C1 := Sr n.AL[j] s (by omega)
  rw [hv]
  clear hv
  generalize n.AL[j] = q at *
  rw [Ed] at C1
  simp +contextual -dsimp only [↓SD, SU, simprocAttr, ET, Ba, Aa, h1, hj, hj0, hlt, e, Ed]
  (repeat' (first | intro _ | refine And.intro ?_ ?_))
  all_goals first | omega | skip
  refine Ac _ C1 ?_
  simp +contextual -dsimp only [↓SD, SU, simprocAttr]
 ·simp +contextual -dsimp only [↓SD, SU, simprocAttr, ET, Ba, Aa]
  (repeat' (first | intro _ | refine And.intro ?_ ?_))
  all_goals first | omega | (exact absurd ⟨‹_›, by omega⟩ h) | (simp [E4, *]; done) | (simp [E4, *]; omega) | trace_state

theorem ZP (s : ByteArray) (hs : s.size ≤ 1099511627776) : ∀ t : Tr, t.ok → t.size ≤ 1099511627776 → AH Tryz.prog 20 [av t, .str s] (.int .i64 (Ib s t)) := Tr.ind fun n ks ih hok hsz => by
 rw [Tr.ok] at hok
 rw [Tr.size] at hsz
 obtain ⟨⟨k3, k13, kb⟩, koks⟩ := hok
 have hlen := K2 ks
 refine EU.F rfl (by simp; exact ⟨AVal.clean _, Ap.str _⟩) (Cr _) ?_
 by_cases h3 : n.kind = 3
 ·simp +contextual -dsimp only [↓SD, SU, simprocAttr, EU, JH, Aa, h3]
  (repeat' (first | intro _ | refine And.intro ?_ ?_))
  all_goals rw [Ib, if_pos h3]; simp [*]
 ·simp +contextual -dsimp only [↓SD, SU, simprocAttr, EU, JH, Aa, h3]
  refine AB (X := Nat × Nat) (fun x => ⟨[(0, .obj [.int .i64 n.kind, .int .i64 n.pos, .int .i64 n.n, .str n.s, .sl (ks.map av), .sl (n.AL.map av)]), (1, .str s), (5, .int .i64 x.2), (22, .sl (ks.map av)), (23, .int .i64 ks.length), (24, .int .i64 x.1)], []⟩) (fun x => x.1 ≤ ks.length ∧ Ib s (.mk n ks) = x.2 + I3 s n x.1 (ks.drop x.1)) (fun x => ks.length - x.1) (0, 0) ⟨Nat.zero_le _, by rw [Ib, if_neg h3, List.drop_zero]; simp⟩ (by simp +contextual -dsimp only [↓SD, SU, simprocAttr]) trivial ?_
  rintro ⟨k, c⟩ ⟨hk, hc⟩
  simp only at hk hc
  have hle := W9 s (.mk n ks)
  rw [Tr.size] at hle
  by_cases hlt : k < ks.length
  ·have e := getD_map av ks k .top hlt
   have hm := List.getElem_mem hlt
   have hsm := K1 hm
   have C1 := ZY n ks k s kb (by omega) (fun h => by have := k13 h; omega)
   have C2 := ih ks[k] hm (Qw koks hm) (by omega)
   rw [List.drop_eq_getElem_cons hlt, I3] at hc
   rw [JH] at C1
   cases hb : E4 n k s with
   | true =>
    rw [hb] at C1 hc
    rw [if_pos rfl] at hc
    generalize ks[k] = t at *
    simp +contextual -dsimp only [↓SD, SU, simprocAttr, Aa, hlt, e, Mo]
    refine Ac _ C1 ?_
    simp +contextual -dsimp only [↓SD, SU, simprocAttr]
    refine ⟨by omega, Ai.le ⟨(k + 1, c), ⟨⟨hlt, by simp only; omega⟩, (by first | omega | (simp only; omega))⟩, rfl⟩ (by simp +contextual -dsimp only [↓SD, SU, simprocAttr, Int.natCast_add]) trivial⟩
   | false =>
    rw [hb] at C1 hc
    rw [if_neg Bool.false_ne_true] at hc
    generalize ks[k] = t at *
    simp +contextual -dsimp only [↓SD, SU, simprocAttr, Aa, hlt, e, Mo]
    refine Ac _ C1 ?_
    simp +contextual -dsimp only [↓SD, SU, simprocAttr, Ma]
    refine Ac _ C2 ?_
    simp +contextual -dsimp only [↓SD, SU, simprocAttr]
    refine ⟨by omega, by omega, Ai.le ⟨(k + 1, c + Ib s t), ⟨⟨hlt, by simp only; omega⟩, (by first | omega | (simp only; omega))⟩, rfl⟩ (by simp +contextual -dsimp only [↓SD, SU, simprocAttr, Int.natCast_add]) trivial⟩
  ·obtain rfl : k = ks.length := by omega
   rw [List.drop_length, I3] at hc
   simp +contextual -dsimp only [↓SD, SU, simprocAttr, Aa, Nat.lt_irrefl]
   rw [hc]; simp
end Go.Proofs.YtoffpbehgncakaaGreat
set_option linter.unusedVariables false
set_option linter.unusedSimpArgs false
set_option maxRecDepth 100000
namespace Go.Proofs.YtoffpbehgncakaaGreat
open Go.RowKit Go.Proofs.YtoffpbehgncakaaGreat.Av Go.Proofs.YtoffpbehgncakaaGreat.Ml
open Go.Proofs.YtoffpbehgncakaaGreat.Av.AVal (av)

theorem Sp (s : ByteArray) (hs : s.size ≤ 1099511627776) : ∀ t : Tr, t.ok → t.size ≤ 1099511627776 → AH Tryz.prog 22 [av (Sub.mk t), .str s] (.int .i64 (Ib s t)) := Tr.ind fun n ks ih hok hsz => by
 rw [Tr.ok] at hok
 rw [Tr.size] at hsz
 obtain ⟨⟨k3, k13, kb⟩, koks⟩ := hok
 have hlen := K2 ks
 refine DJ.F rfl (by simp; exact ⟨AVal.clean _, Ap.str _⟩) (Cr _) ?_
 by_cases h3 : n.kind = 3
 ·obtain rfl : ks = [] := List.length_eq_zero_iff.1 (k3 h3)
  by_cases hn : n.s = s
  ·simp +contextual -dsimp only [↓SD, SU, simprocAttr, DJ, NN, Aa, h3, hn]
   rw [Ib, if_pos h3, if_pos hn]; rfl
  ·simp +contextual -dsimp only [↓SD, SU, simprocAttr, DJ, NN, Aa, h3, hn]
   refine AB (X := Unit) (fun x => ⟨[(1, .str s), (2, .obj [.int .i64 3, .int .i64 n.pos, .int .i64 n.n, .str n.s, .sl (n.kids.map av), .sl (n.AL.map av), .sl []]), (5, .int .i64 0), (20, .int .i64 0), (21, .int .i64 0)], []⟩) (fun x => True) (fun x => 0) () trivial (by simp +contextual -dsimp only [↓SD, SU, simprocAttr]) trivial ?_
   rintro _ _
   simp +contextual -dsimp only [↓SD, SU, simprocAttr]
   rw [Ib, if_pos h3, if_neg hn]; rfl
 ·simp +contextual -dsimp only [↓SD, SU, simprocAttr, DJ, NN, Aa, h3]
  refine AB (X := Nat × Nat) (fun x => ⟨[(1, .str s), (2, .obj [.int .i64 n.kind, .int .i64 n.pos, .int .i64 n.n, .str n.s, .sl (n.kids.map av), .sl (n.AL.map av), .sl ((ks.map Sub.mk).map av)]), (5, .int .i64 x.2), (20, .int .i64 ks.length), (21, .int .i64 x.1)], []⟩) (fun x => x.1 ≤ ks.length ∧ Ib s (.mk n ks) = x.2 + I3 s n x.1 (ks.drop x.1)) (fun x => ks.length - x.1) (0, 0) ⟨Nat.zero_le _, by rw [Ib, if_neg h3, List.drop_zero]; simp⟩ (by simp +contextual -dsimp only [↓SD, SU, simprocAttr, Aa]) trivial ?_
  rintro ⟨k, c⟩ ⟨hk, hc⟩
  simp only at hk hc
  have hle := W9 s (.mk n ks)
  rw [Tr.size] at hle
  by_cases hlt : k < ks.length
  ·have hlt' : k < (ks.map Sub.mk).length := by simpa using hlt
   have e := getD_map av (ks.map Sub.mk) k .top hlt'
   rw [List.getElem_map] at e
   have hm := List.getElem_mem hlt
   have hsm := K1 hm
   have C1 := Sq n k s kb (by omega) (fun h => by have := k13 h; omega)
   have C2 := ih ks[k] hm (Qw koks hm) (by omega)
   rw [List.drop_eq_getElem_cons hlt, I3] at hc
   rw [Ba] at C1
   cases hb : E4 n k s with
   | true =>
    rw [hb] at C1 hc
    rw [if_pos rfl] at hc
    generalize ks[k] = t at *
    simp +contextual -dsimp only [↓SD, SU, simprocAttr, Aa, hlt, e]
    refine Ac _ C1 ?_
    simp +contextual -dsimp only [↓SD, SU, simprocAttr]
    refine ⟨by omega, Ai.le ⟨(k + 1, c), ⟨⟨hlt, by simp only; omega⟩, (by first | omega | (simp only; omega))⟩, rfl⟩ (by simp +contextual -dsimp only [↓SD, SU, simprocAttr, Int.natCast_add]) trivial⟩
   | false =>
    rw [hb] at C1 hc
    rw [if_neg Bool.false_ne_true] at hc
    generalize ks[k] = t at *
    simp +contextual -dsimp only [↓SD, SU, simprocAttr, Aa, hlt, e, Ql]
    refine Ac _ C1 ?_
    simp +contextual -dsimp only [↓SD, SU, simprocAttr, Aa, hlt, e, Ql, Aat]
    refine Ac _ C2 ?_
    simp +contextual -dsimp only [↓SD, SU, simprocAttr]
    refine ⟨by omega, by omega, Ai.le ⟨(k + 1, c + Ib s t), ⟨⟨hlt, by simp only; omega⟩, (by first | omega | (simp only; omega))⟩, rfl⟩ (by simp +contextual -dsimp only [↓SD, SU, simprocAttr, Int.natCast_add]) trivial⟩
  ·obtain rfl : k = ks.length := by omega
   rw [List.drop_length, I3] at hc
   simp +contextual -dsimp only [↓SD, SU, simprocAttr, Aa, Nat.lt_irrefl]
   rw [hc]; simp
end Go.Proofs.YtoffpbehgncakaaGreat
set_option linter.unusedVariables false
set_option linter.unusedSimpArgs false
set_option maxRecDepth 100000
namespace Go.Proofs.YtoffpbehgncakaaGreat
open Go.RowKit Go.Proofs.YtoffpbehgncakaaGreat.Av Go.Proofs.YtoffpbehgncakaaGreat.Ml
open Go.Proofs.YtoffpbehgncakaaGreat.Av.AVal (av)

theorem AbG {nm : Node → Bool} {l : List Node} {n : Node} (h : A1 nm l n = true) (hb : AE.bulk n ≤ 1099511627776) : Wr n n.kids.length := by
 unfold A1 at h
 split at h
 ·cases h
 rename_i h0
 refine ⟨fun hk => ?_, fun hk => ?_, hb⟩
 ·have ha : A0 n.kind = 0 := by rw [hk]; rfl
  rw [ha] at h0
  omega
 ·simp [hk] at h
  omega
theorem ME {p : Program} (hx : AE.bulk p ≤ 1099511627776) (hb : Fo p = true) : 1 ≤ p.nodes.length ∧ p.nodes.length ≤ 600 ∧ Eg (BZ p.nodes) p.nodes.length = true ∧ (∀ n ∈ p.nodes, Wr n n.kids.length) ∧ (∀ n ∈ p.nodes, ∀ q ∈ n.AL, q.nodes ≠ []) := by
 obtain ⟨q1, q2, q3, q4⟩ := Dw hx
 simp only [Fo, K3, Bool.and_eq_true, decide_eq_true_eq, List.all_eq_true] at hb
 obtain ⟨⟨⟨⟨⟨h1, h2⟩, h3⟩, h4⟩, h5⟩, h6⟩ := hb
 refine ⟨by omega, by omega, h3, fun n hn => AbG (h4 n hn) ?_, fun n hn q hq => ?_⟩
 ·have := CY hn; omega
 ·have := h6 n hn q hq
  intro h
  rw [h] at this
  simp [F5] at this

end Go.Proofs.YtoffpbehgncakaaGreat
set_option linter.unusedVariables false
set_option linter.unusedSimpArgs false
set_option maxRecDepth 100000
namespace Go.Proofs.YtoffpbehgncakaaGreat
open Go.RowKit Go.Proofs.YtoffpbehgncakaaGreat.Av Go.Proofs.YtoffpbehgncakaaGreat.Ml
open Go.Proofs.YtoffpbehgncakaaGreat.Av.AVal (av)

def Fb (p : Program) (i : Int) : Bool := Fo p && (decide (0 ≤ i) && decide (i < p.nodes.length))
def Oi (p : Program) (i : Int) (s : ByteArray) : Int := if Fb p i then (Ib s (JK p.nodes i.toNat) : Int) else -1
theorem JB (p : Program) (i : Int) (s : ByteArray) (hx : AE.bulk p ≤ 1099511627776) (hs : s.size ≤ 1099511627776) : AH Tryz.prog 6 [av p, .int .i64 i, .str s] (.int .i64 (Oi p i s)) := by
 obtain ⟨q1, q2, q3, q4⟩ := Dw hx
 refine IQ.F rfl (by simp; exact ⟨AVal.clean p, Cr _, Ap.str _⟩) (Cr _) ?_
 have C := Lb p hx
 rw [Aw] at C
 simp +contextual -dsimp only [↓SD, SU, simprocAttr, IQ, Aw, Aa]
 cases hb : Fo p with
 | false =>
  rw [hb] at C
  refine Ac _ C ?_
  simp +contextual -dsimp only [↓SD, SU, simprocAttr]
  simp [Oi, Fb, hb]
 | true =>
  rw [hb] at C
  obtain ⟨f1, f2, f3, f4, f5⟩ := ME hx hb
  refine Ac _ C ?_
  simp +contextual -dsimp only [↓SD, SU, simprocAttr, Aa]
  refine ⟨by omega, ?_⟩
  have W := Dn i 0 ((p.nodes.length : Int) - 1)
  cases hw : (decide (0 ≤ i) && decide (i ≤ (p.nodes.length : Int) - 1)) with
  | false =>
   rw [hw] at W
   refine Ac _ W ?_
   simp +contextual -dsimp only [↓SD, SU, simprocAttr, Aa]
   have : Fb p i = false := by
    simp only [Fb, hb, Bool.true_and, Bool.and_eq_false_iff, decide_eq_false_iff_not] at hw ⊢
    omega
   simp [Oi, this]
  | true =>
   rw [hw] at W
   simp only [Bool.and_eq_true, decide_eq_true_eq] at hw
   have hp : Fb p i = true := by simp only [Fb, hb, Bool.and_eq_true, decide_eq_true_eq]; exact ⟨trivial, by omega, by omega⟩
   obtain ⟨j, rfl⟩ : ∃ j : Nat, i = j := ⟨i.toNat, by omega⟩
   have hk : ∀ i, i < p.nodes.length → ∀ k ∈ BZ p.nodes i, (i : Int) < k ∧ k < p.nodes.length := fun i hi k hk => I7 f3 hi hk
   have C2 := AaQ p.nodes hk q2 f5 p.nodes.length j (by omega) (by omega)
   have C3 := ZP s hs (Cq p.nodes p.nodes.length j) (KY hk f4 _ _ (by omega) (by omega)) (by have := Lq f3 (i := j) (by omega); unfold JK at this; omega)
   have ho : Oi p j s = Ib s (Cq p.nodes p.nodes.length j) := by simp [Oi, hp, JK]
   rw [ho]
   generalize Cq p.nodes p.nodes.length j = t at *
   refine Ac _ W ?_
   simp +contextual -dsimp only [↓SD, SU, simprocAttr, Aa]
   refine Ac _ C2 ?_
   simp +contextual -dsimp only [↓SD, SU, simprocAttr, Ma]
   refine Ac _ C3 ?_
   simp +contextual -dsimp only [↓SD, SU, simprocAttr]

theorem On (p : Program) (i : Int) (s : ByteArray) (hx : AE.bulk p ≤ 1099511627776) (hs : s.size ≤ 1099511627776) : AH Tryz.prog 8 [av p, .int .i64 i, .str s] (.bool (decide (0 < Oi p i s))) := by
 refine IV.F rfl (by simp; exact ⟨AVal.clean p, Cr _, Ap.str _⟩) (Ap.bool _) ?_
 have C := JB p i s hx hs
 rw [Aw] at C
 simp +contextual -dsimp only [↓SD, SU, simprocAttr, IV, Aw, Aa]
 refine Ac _ C ?_
 simp +contextual -dsimp only [↓SD, SU, simprocAttr]
end Go.Proofs.YtoffpbehgncakaaGreat
set_option linter.unusedVariables false
set_option maxRecDepth 100000
namespace Go.Proofs.YtoffpbehgncakaaGreat
open Go.Proofs.YtoffpbehgncakaaGreat.Av

theorem QQ : Tryz.prog.follows .mixedOrders = true := by kernel_rfl

def Iv : Ir Tryz.prog 23 [] [12,14] 2 := ⟨_, _, Tryz.func23, QQ, by kernel_rfl, AA [] Tryz.progTables (by conv => lhs; cbv) (by kernel_rfl)⟩
end Go.Proofs.YtoffpbehgncakaaGreat
