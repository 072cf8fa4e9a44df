/-
 A program of types and one unit node, printed by the reference's abstract text: PrintProgram. Conditions: none.
-/
import Derived.Test.YtppjinmlfcokaaaGreatVJ23
import Derived.Test.YtppjinmlfcokaaaGreatVPgmW4
import Derived.Test.YtppjinmlfcokaaaGreatVAvRen
import Derived.Test.YtppjinmlfcokaaaGreatProg
import Derived.Test.YtppjinmlfcokaaaGreatVAvDraw
import Derived.Test.YtppjinmlfcokaaaGreatVJ12
set_option linter.unusedVariables false
set_option linter.unusedSimpArgs false
set_option maxRecDepth 100000
namespace Go.Proofs.YtppjinmlfcokaaaGreat
open Go.RowKit Go.Proofs.YtppjinmlfcokaaaGreat.Av Go.Proofs.YtppjinmlfcokaaaGreat.Ml
open Go.Proofs.YtppjinmlfcokaaaGreat.Av.AVal (av)

def GJ (s : ByteArray) (i : Nat) (c : Con) : ByteArray :=
 let a := (if 0 < i then s ++ bs [32, 124, 32] else s) ++ c.name
 if c.has = true then a ++ bs [32, 111, 102, 32] ++ tyS c.arg.items (c.arg.items.length + 1) 0 else a
def J1 : ByteArray → Nat → List Con → ByteArray
 | s, _, [] => s
 | s, i, c :: r => J1 (GJ s i c) (i + 1) r
def Vn (m : Int) : ByteArray := if m = 0 then bs [] else if m = 1 then bs [39, 97, 32] else bs [40, 39, 97, 44, 32, 39, 98, 41, 32]
def Kb (s : ByteArray) (t : BF) : ByteArray := J1 (s ++ bs [116, 121, 112, 101, 32] ++ Vn t.params ++ t.name ++ bs [32, 61, 32]) 0 t.cons ++ bs [59, 32]
def Lz (s : ByteArray) (l : List BF) : ByteArray := l.foldl Kb s
theorem Nj {l : List AY} (h : tyB l = true) : l.all EZ = true ∧ DP (arL l) (l.length + 1) 0 = some l.length := by
 unfold tyB Fg at h
 simp only [Bool.and_eq_true, decide_eq_true_eq] at h
 refine ⟨h.2.1, ?_⟩
 have hl : (arL l).length = l.length := by simp [arL]
 rw [NF _ _ _ (by omega), List.drop_zero, h.2.2, hl]
 rfl
theorem Sy {c : Con} {m : Int} (h : D6 c m = true) (hh : c.has = true) : tyB c.arg.items = true := by
 unfold D6 at h
 rw [if_pos hh] at h
 simp only [Bool.and_eq_true] at h
 exact h.1.2
theorem Qv {c : Con} {m : Int} (h : D6 c m = true) (s : ByteArray) (i : Nat) : (GJ s i c).size ≤ s.size + 100 * Ac.bulk c ∧ (c.has = true → (tyS c.arg.items (c.arg.items.length + 1) 0).size ≤ 81 * Ac.bulk c) := by
 have h2 : Ac.bulk c = Ac.bulk c.name + Ac.bulk c.has + Ac.bulk c.arg + 1 := rfl
 have h3 : Ac.bulk c.arg = Ac.bulk c.arg.items + 1 := rfl
 have h4 : Ac.bulk c.name = c.name.size + 1 := rfl
 have h5 : (bs [32, 124, 32]).size = 3 := rfl
 have h6 : (bs [32, 111, 102, 32]).size = 4 := rfl
 have h7 : (if 0 < i then s ++ bs [32, 124, 32] else s).size ≤ s.size + 3 := by
  split
  ·rw [ByteArray.size_append]; omega
  ·omega
 have ht : c.has = true → (tyS c.arg.items (c.arg.items.length + 1) 0).size ≤ 81 * Ac.bulk c.arg.items := fun hh => by
  obtain ⟨g1, g2⟩ := Nj (Sy h hh)
  have g3 := (XA _ _ _ _ g1 g2).2.2.2
  have g4 := ZC c.arg.items c.arg.items.length
  omega
 refine ⟨?_, fun hh => by have := ht hh; omega⟩
 unfold GJ
 dsimp only
 split
 ·rename_i hh
  have := ht hh
  simp only [ByteArray.size_append]
  omega
 ·simp only [ByteArray.size_append]
  omega
theorem SM {α : Type} [Ac α] (l : List α) (i : Nat) (h : i < l.length) : ((l.drop i).map Ac.bulk).sum = Ac.bulk l[i] + ((l.drop (i + 1)).map Ac.bulk).sum := by
 rw [List.drop_eq_getElem_cons h, List.map_cons, List.sum_cons]
theorem WC {m : Int} : ∀ (l : List Con) (s : ByteArray) (i : Nat), (l.all fun c => D6 c m) = true → (J1 s i l).size ≤ s.size + 100 * (l.map Ac.bulk).sum
 | [], s, i, _ => Nat.le_add_right _ _
 | c :: r, s, i, h => by
  rw [List.all_cons, Bool.and_eq_true] at h
  have h1 := (Qv h.1 s i).1
  have h2 := WC r (GJ s i c) (i + 1) h.2
  rw [J1, List.map_cons, List.sum_cons]
  omega
theorem ZI (m : Int) : (Vn m).size ≤ 9 := by
 unfold Vn
 split
 ·decide
 ·split <;> decide
theorem Ug {t : BF} (h : FP t = true) (s : ByteArray) : (Kb s t).size ≤ s.size + 200 * Ac.bulk t := by
 unfold FP at h
 rw [Bool.and_eq_true] at h
 have h1 := WC t.cons (s ++ bs [116, 121, 112, 101, 32] ++ Vn t.params ++ t.name ++ bs [32, 61, 32]) 0 h.2
 have h2 : Ac.bulk t = Ac.bulk t.name + Ac.bulk t.params + Ac.bulk t.cons + 1 := rfl
 have h3 : Ac.bulk t.name = t.name.size + 1 := rfl
 have h4 := GA t.cons
 have h5 := ZI t.params
 have g1 : (bs [116, 121, 112, 101, 32]).size = 5 := rfl
 have g2 : (bs [32, 61, 32]).size = 3 := rfl
 have g3 : (bs [59, 32]).size = 2 := rfl
 unfold Kb
 simp only [ByteArray.size_append] at h1 ⊢
 omega
theorem AcM {p : Program} (h : Bv p = true) : p.types.all FP = true := by
 rw [HD, Gl] at h
 simp only [Bool.and_eq_true] at h
 exact h.1.2
end Go.Proofs.YtppjinmlfcokaaaGreat
set_option linter.unusedVariables false
set_option linter.unusedSimpArgs false
set_option maxRecDepth 100000
namespace Go.Proofs.YtppjinmlfcokaaaGreat
open Go.RowKit Go.Proofs.YtppjinmlfcokaaaGreat.Av Go.Proofs.YtppjinmlfcokaaaGreat.Ml
open Go.Proofs.YtppjinmlfcokaaaGreat.Av.AVal (av)

set_option maxHeartbeats 4000000 in
theorem AcO (p : Program) (hx : Ac.bulk p ≤ 4294967296) (hb : Bv p = true) (s9 : ByteArray) (hs9 : s9.size ≤ 1099511627776) (CE : Ah Tryz.prog 80 [.agg [.sl (p.types.map av), .sl (p.nodes.map av)], .int .i64 0] (.str s9)) : Ah Tryz.prog 40 [av p] (.str (Lz (bs []) p.types ++ s9)) := by
  have CO := Du p hx
  refine GQ.F rfl (by simp; exact AVal.clean _) (Ad.str _) ?_
  have hxb : Ac.bulk p = Ac.bulk p.types + Ac.bulk p.nodes + 1 := rfl
  have hty := AcM hb
  rw [Ag] at CO ⊢
  generalize p.types = ts at *
  have htl := Ai ts
  have hts := GA ts
  rw [hb] at CO
  have hty2 : ts.all FP = true := hty
  simp +contextual -dsimp (maxSteps := 2000000) only [↓SD, SU, simprocAttr, GQ]
  refine Aa _ CO ?_
  simp +contextual -dsimp (maxSteps := 2000000) only [↓SD, SU, simprocAttr, Ab]
  refine Am (X := Nat × ByteArray) (fun x => ⟨[(1, .obj [.sl (ts.map av), .sl (p.nodes.map av)]), (3, .str x.2), (12, .sl (ts.map av)), (13, .int .i64 ts.length), (14, .int .i64 x.1)], []⟩) (fun x => x.1 ≤ ts.length ∧ Lz x.2 (ts.drop x.1) = Lz (bs []) ts ∧ x.2.size + 200 * ((ts.drop x.1).map Ac.bulk).sum ≤ 200 * (ts.map Ac.bulk).sum) (fun x => ts.length - x.1) (0, bs []) ⟨Nat.zero_le _, rfl, by dsimp only; rw [List.drop_zero]; have : (bs []).size = 0 := rfl; omega⟩ (by simp +contextual -dsimp only [↓SD, SU, simprocAttr]) trivial ?_
  rintro ⟨j, s⟩ ⟨hj, hq, hs⟩
  dsimp only at hj hq hs ⊢
  by_cases hlt : j < ts.length
  ·have e1 := getD_map av ts j .top hlt
   have hbd := SM ts j hlt
   have htm := Au (List.getElem_mem hlt)
   have hjb := List.all_eq_true.1 hty2 ts[j] (List.getElem_mem hlt)
   have hst := Ug hjb s
   have hq2 : Lz (Kb s ts[j]) (ts.drop (j + 1)) = Lz (bs []) ts := by rw [← hq, List.drop_eq_getElem_cons hlt]; rfl
   generalize ts[j] = t at *
   obtain ⟨tn, tp, cs⟩ := t
   rw [BE] at e1
   dsimp only at e1
   have hjb2 := hjb
   unfold FP at hjb2
   simp only [Bool.and_eq_true, decide_eq_true_eq] at hjb2
   obtain ⟨⟨⟨_, hpar⟩, _⟩, hcs⟩ := hjb2
   have t2 : Ac.bulk (⟨tn, tp, cs⟩ : BF) = Ac.bulk tn + Ac.bulk tp + Ac.bulk cs + 1 := rfl
   have t3 : Ac.bulk tn = tn.size + 1 := rfl
   have t4 := GA cs
   have t5 := ZI tp
   have t6 := Ai cs
   have g1 : (bs [116, 121, 112, 101, 32]).size = 5 := rfl
   have g2 : (bs [32, 61, 32]).size = 3 := rfl
   have g3 : (bs [59, 32]).size = 2 := rfl
   obtain ⟨s0, hs0⟩ : ∃ s0, s0 = s ++ bs [116, 121, 112, 101, 32] ++ Vn tp ++ tn ++ bs [32, 61, 32] := ⟨_, rfl⟩
   have hs0s := congrArg ByteArray.size hs0
   simp only [ByteArray.size_append] at hs0s
   have hfin : Kb s ⟨tn, tp, cs⟩ = J1 s0 0 cs ++ bs [59, 32] := by rw [hs0]; rfl
   rw [hfin] at hst hq2
   clear hfin
   rw [ByteArray.size_append] at hst
   have hpc : tp = 0 ∨ tp = 1 ∨ tp = 2 := by omega
   have hP0 : Vn 0 = bs [] := rfl
   have hP1 : Vn 1 = bs [39, 97, 32] := rfl
   have hP2 : Vn 2 = bs [40, 39, 97, 44, 32, 39, 98, 41, 32] := rfl
   rcases hpc with rfl | rfl | rfl
   all_goals
    simp only [hP0, hP1, hP2] at hs0 hs0s t5
    simp +contextual -dsimp (maxSteps := 2000000) only [↓SD, SU, simprocAttr, Ab, hlt, e1]
    intro v5
    refine ⟨by unfold maxLen; omega, by simp only [ByteArray.size_append]; unfold maxLen; omega, by simp only [ByteArray.size_append]; unfold maxLen; omega, by simp only [ByteArray.size_append]; unfold maxLen; omega, ?_⟩
    rw [← hs0]
    clear hP0 hP1 hP2 hs0
    refine Am (X := Nat × ByteArray) (fun x => ⟨[(1, .obj [.sl (ts.map av), .sl (p.nodes.map av)]), (3, .str x.2), (12, .sl (ts.map av)), (13, .int .i64 ts.length), (14, .int .i64 j), (31, .sl (cs.map av)), (32, .int .i64 cs.length), (33, .int .i64 x.1)], []⟩) (fun x => x.1 ≤ cs.length ∧ J1 x.2 x.1 (cs.drop x.1) = J1 s0 0 cs ∧ x.2.size + 100 * ((cs.drop x.1).map Ac.bulk).sum ≤ s0.size + 100 * (cs.map Ac.bulk).sum) (fun x => cs.length - x.1) (0, s0) ⟨Nat.zero_le _, rfl, by dsimp only; rw [List.drop_zero]; exact Nat.le_refl _⟩ (by simp +contextual -dsimp only [↓SD, SU, simprocAttr]) trivial ?_
    rintro ⟨i, s1⟩ ⟨hi, hqi, hsi⟩
    dsimp only at hi hqi hsi ⊢
    by_cases hlt2 : i < cs.length
    ·have e2 := getD_map av cs i .top hlt2
     have hbd2 := SM cs i hlt2
     have hcm := Au (List.getElem_mem hlt2)
     have hcb := List.all_eq_true.1 hcs cs[i] (List.getElem_mem hlt2)
     have hcl := Qv hcb s1 i
     have hqi2 : J1 (GJ s1 i cs[i]) (i + 1) (cs.drop (i + 1)) = J1 s0 0 cs := by rw [← hqi, List.drop_eq_getElem_cons hlt2, J1]
     generalize cs[i] = c at *
     obtain ⟨cn, ch, ⟨items⟩⟩ := c
     rw [Ck] at e2
     have hty3 := fun h => Sy hcb h
     dsimp only at e2 hcl hty3
     have c2 : Ac.bulk (⟨cn, ch, ⟨items⟩⟩ : Con) = Ac.bulk cn + Ac.bulk ch + (Ac.bulk items + 1) + 1 := rfl
     have c3 : Ac.bulk cn = cn.size + 1 := rfl
     have k1 : (bs [32, 124, 32]).size = 3 := rfl
     have k2 : (bs [32, 111, 102, 32]).size = 4 := rfl
     have hil := Ai items
     obtain ⟨s2, hs2⟩ : ∃ s2, s2 = GJ s1 i ⟨cn, ch, ⟨items⟩⟩ := ⟨_, rfl⟩
     rw [← hs2] at hqi2 hcl
     clear hqi
     rcases Nat.lt_or_ge 0 i with h0 | h0
     all_goals cases ch
     ·have hi1 : (0 : Int) < (i : Int) := by omega
      have hs3 : s2 = (s1 ++ bs [32, 124, 32]) ++ cn := by rw [hs2, GJ]; simp only [if_pos h0, Bool.false_eq_true, if_false]
      clear hs2
      have hs4 := congrArg ByteArray.size hs3
      simp only [ByteArray.size_append] at hs4
      simp +contextual -dsimp (maxSteps := 2000000) only [↓SD, SU, simprocAttr, Ab, hlt2, e2, hi1]
      intro v7
      try simp only [ByteArray.size_append]
      refine ⟨by unfold maxLen; omega, by unfold maxLen; omega, ?_⟩
      rw [← hs3]
      exact ⟨by omega, Af.le ⟨(i + 1, s2), ⟨⟨hlt2, hqi2, by dsimp only; omega⟩, (by first | omega | (simp only; omega))⟩, rfl⟩ (by simp +contextual -dsimp only [↓SD, SU, simprocAttr, Int.natCast_add]) trivial⟩
     ·have hi1 : (0 : Int) < (i : Int) := by omega
      have hs3 : s2 = (s1 ++ bs [32, 124, 32]) ++ cn ++ bs [32, 111, 102, 32] ++ tyS items (items.length + 1) 0 := by rw [hs2, GJ]; simp only [if_pos h0, if_true]
      have hty4 := Nj (hty3 rfl)
      have CT := P2 items (by omega) hty4.1 (items.length + 1) 0 _ (by omega) hty4.2
      have hT := hcl.2 rfl
      generalize tyS items (items.length + 1) 0 = T at *
      clear hs2
      have hs4 := congrArg ByteArray.size hs3
      simp only [ByteArray.size_append] at hs4
      simp +contextual -dsimp (maxSteps := 2000000) only [↓SD, SU, simprocAttr, Ab, hlt2, e2, hi1]
      intro v7
      try simp only [ByteArray.size_append]
      refine ⟨by unfold maxLen; omega, by unfold maxLen; omega, by unfold maxLen; omega, ?_⟩
      refine Aa _ CT ?_
      simp +contextual -dsimp (maxSteps := 2000000) only [↓SD, SU, simprocAttr, ByteArray.size_append]
      refine ⟨by unfold maxLen; omega, ?_⟩
      rw [← hs3]
      exact ⟨by omega, Af.le ⟨(i + 1, s2), ⟨⟨hlt2, hqi2, by dsimp only; omega⟩, (by first | omega | (simp only; omega))⟩, rfl⟩ (by simp +contextual -dsimp only [↓SD, SU, simprocAttr, Int.natCast_add]) trivial⟩
     ·have hi1 : ¬ (0 : Int) < (i : Int) := by omega
      have hs3 : s2 = s1 ++ cn := by rw [hs2, GJ]; simp only [if_neg (Nat.not_lt.2 h0), Bool.false_eq_true, if_false]
      clear hs2
      have hs4 := congrArg ByteArray.size hs3
      simp only [ByteArray.size_append] at hs4
      simp +contextual -dsimp (maxSteps := 2000000) only [↓SD, SU, simprocAttr, Ab, hlt2, e2, hi1]
      intro v7
      try simp only [ByteArray.size_append]
      refine ⟨by unfold maxLen; omega, ?_⟩
      rw [← hs3]
      exact ⟨by omega, Af.le ⟨(i + 1, s2), ⟨⟨hlt2, hqi2, by dsimp only; omega⟩, (by first | omega | (simp only; omega))⟩, rfl⟩ (by simp +contextual -dsimp only [↓SD, SU, simprocAttr, Int.natCast_add]) trivial⟩
     ·have hi1 : ¬ (0 : Int) < (i : Int) := by omega
      have hs3 : s2 = s1 ++ cn ++ bs [32, 111, 102, 32] ++ tyS items (items.length + 1) 0 := by rw [hs2, GJ]; simp only [if_neg (Nat.not_lt.2 h0), if_true]
      have hty4 := Nj (hty3 rfl)
      have CT := P2 items (by omega) hty4.1 (items.length + 1) 0 _ (by omega) hty4.2
      have hT := hcl.2 rfl
      generalize tyS items (items.length + 1) 0 = T at *
      clear hs2
      have hs4 := congrArg ByteArray.size hs3
      simp only [ByteArray.size_append] at hs4
      simp +contextual -dsimp (maxSteps := 2000000) only [↓SD, SU, simprocAttr, Ab, hlt2, e2, hi1]
      intro v7
      try simp only [ByteArray.size_append]
      refine ⟨by unfold maxLen; omega, by unfold maxLen; omega, ?_⟩
      refine Aa _ CT ?_
      simp +contextual -dsimp (maxSteps := 2000000) only [↓SD, SU, simprocAttr, ByteArray.size_append]
      refine ⟨by unfold maxLen; omega, ?_⟩
      rw [← hs3]
      exact ⟨by omega, Af.le ⟨(i + 1, s2), ⟨⟨hlt2, hqi2, by dsimp only; omega⟩, (by first | omega | (simp only; omega))⟩, rfl⟩ (by simp +contextual -dsimp only [↓SD, SU, simprocAttr, Int.natCast_add]) trivial⟩
    ·obtain rfl : i = cs.length := by omega
     rw [List.drop_length, J1] at hqi
     subst hqi
     simp +contextual -dsimp (maxSteps := 2000000) only [↓SD, SU, simprocAttr, Ab, Nat.lt_irrefl]
     exact ⟨by unfold maxLen; omega, by omega, Af.le ⟨(j + 1, J1 s0 0 cs ++ bs [59, 32]), ⟨⟨hlt, hq2, by dsimp only; rw [ByteArray.size_append]; omega⟩, (by first | omega | (simp only; omega))⟩, rfl⟩ (by simp +contextual -dsimp only [↓SD, SU, simprocAttr, Int.natCast_add]) trivial⟩
  ·obtain rfl : j = ts.length := by omega
   rw [List.drop_length] at hq
   have hq3 : s = Lz (bs []) ts := hq
   simp +contextual -dsimp (maxSteps := 2000000) only [↓SD, SU, simprocAttr, Ab, Nat.lt_irrefl]
   refine Aa _ CE ?_
   rw [List.drop_length, List.map_nil, List.sum_nil] at hs
   rw [hq3] at hs
   simp +contextual -dsimp (maxSteps := 2000000) only [↓SD, SU, simprocAttr, hq3]
   unfold maxLen; omega
end Go.Proofs.YtppjinmlfcokaaaGreat
set_option linter.unusedVariables false
set_option maxRecDepth 100000
namespace Go.Proofs.YtppjinmlfcokaaaGreat
open Go.Proofs.YtppjinmlfcokaaaGreat.Av

theorem F7 : Tryz.prog.follows .mixedOrders = true := by kernel_rfl

def Co : Ir Tryz.prog 146 [(55,7775),(58,7775),(59,7775),(60,7775),(61,7775)] [] 2 := ⟨_, _, Tryz.func146, F7, by kernel_rfl, Aj [10016] Tryz.progTables (by conv => lhs; cbv) (by kernel_rfl)⟩
def DV : Ir Tryz.prog 16 [] [] 2 := ⟨_, _, Tryz.func16, F7, by kernel_rfl, Aj [] Tryz.progTables (by conv => lhs; cbv) (by kernel_rfl)⟩
def JJ : Ir Tryz.prog 6 [] [] 1 := ⟨_, _, Tryz.func6, F7, by kernel_rfl, Aj [] Tryz.progTables (by conv => lhs; cbv) (by kernel_rfl)⟩
def Ha : Ir Tryz.prog 23 [] [] 2 := ⟨_, _, Tryz.func23, F7, by kernel_rfl, Aj [] Tryz.progTables (by conv => lhs; cbv) (by kernel_rfl)⟩
def G1 : Ir Tryz.prog 8 [] [] 1 := ⟨_, _, Tryz.func8, F7, by kernel_rfl, Aj [] Tryz.progTables (by conv => lhs; cbv) (by kernel_rfl)⟩
end Go.Proofs.YtppjinmlfcokaaaGreat
set_option linter.unusedVariables false
set_option maxRecDepth 100000
namespace Go.Proofs.YtppjinmlfcokaaaGreat
open Go.Proofs.YtppjinmlfcokaaaGreat.Av

theorem EL : Tryz.prog.follows .mixedOrders = true := by kernel_rfl

def Gr : Ir Tryz.prog 165 [] [] 3 := ⟨_, _, Tryz.func165, EL, by kernel_rfl, Aj [] Tryz.progTables (by conv => lhs; cbv) (by kernel_rfl)⟩
def Gq : Ir Tryz.prog 119 [] [] 2 := ⟨_, _, Tryz.func119, EL, by kernel_rfl, Aj [] Tryz.progTables (by conv => lhs; cbv) (by kernel_rfl)⟩
def JU : Ir Tryz.prog 118 [] [] 1 := ⟨_, _, Tryz.func118, EL, by kernel_rfl, Aj [] Tryz.progTables (by conv => lhs; cbv) (by kernel_rfl)⟩
def IV : Ir Tryz.prog 148 [] [] 2 := ⟨_, _, Tryz.func148, EL, by kernel_rfl, Aj [] Tryz.progTables (by conv => lhs; cbv) (by kernel_rfl)⟩
def Gn : Ir Tryz.prog 149 [] [] 3 := ⟨_, _, Tryz.func149, EL, by kernel_rfl, Aj [] Tryz.progTables (by conv => lhs; cbv) (by kernel_rfl)⟩
def GY : Ir Tryz.prog 83 [] [] 3 := ⟨_, _, Tryz.func83, EL, by kernel_rfl, Aj [] Tryz.progTables (by conv => lhs; cbv) (by kernel_rfl)⟩
def JA : Ir Tryz.prog 85 [] [] 1 := ⟨_, _, Tryz.func85, EL, by kernel_rfl, Aj [] Tryz.progTables (by conv => lhs; cbv) (by kernel_rfl)⟩
end Go.Proofs.YtppjinmlfcokaaaGreat
set_option linter.unusedVariables false
set_option maxRecDepth 100000
namespace Go.Proofs.YtppjinmlfcokaaaGreat
open Go.Proofs.YtppjinmlfcokaaaGreat.Av

theorem Q6 : Tryz.prog.follows .mixedOrders = true := by kernel_rfl

def I2 : Ir Tryz.prog 197 [] [] 1 := ⟨_, _, Tryz.func197, Q6, by kernel_rfl, Aj [] Tryz.progTables (by conv => lhs; cbv) (by kernel_rfl)⟩
end Go.Proofs.YtppjinmlfcokaaaGreat
set_option linter.unusedVariables false
set_option linter.unusedSimpArgs false
set_option maxRecDepth 100000
namespace Go.Proofs.YtppjinmlfcokaaaGreat
open Go.RowKit Go.Proofs.YtppjinmlfcokaaaGreat.Av Go.Proofs.YtppjinmlfcokaaaGreat.Ml
open Go.Proofs.YtppjinmlfcokaaaGreat.Av.AVal (av)

theorem Vm (l : List Bg) (hx : Ac.bulk l ≤ 4294967296) : Ah Tryz.prog 197 [.agg [.sl (l.map av)]] (.sl ((varsOf l).map av)) := by
 have hl := Ai l
 refine I2.F rfl (by simp; exact Ad.agg (by simp; exact Ak l)) (Ak _) ?_
 simp +contextual -dsimp only [↓SD, SU, simprocAttr, I2, Ab]
 intro v
 refine Am (X := Nat × Nat) (fun x => ⟨[(3, .row 6 x.2 (varsOf (l.take x.1)).length), (8, .sl (l.map av)), (9, .int .i64 l.length), (10, .int .i64 x.1)], [(6, ⟨x.2, false, 9, 1, (varsOf (l.take x.1)).map av⟩)]⟩) (fun x => x.1 ≤ l.length) (fun x => l.length - x.1) (0, v) (Nat.zero_le _) (by simp +contextual -dsimp only [↓SD, SU, simprocAttr, varsOf, List.filterMap_nil]) (by simp +contextual -dsimp only [↓SD, SU, simprocAttr, varsOf, List.filterMap_nil]) ?_
 rintro ⟨k, u⟩ hk
 simp only at hk
 by_cases hlt : k < l.length
 ·have e := getD_map av l k .top hlt
  have hv := Ka hlt
  have hvl := Jd (l.take k)
  rw [List.length_take] at hvl
  generalize l[k] = a at *
  simp +contextual -dsimp only [↓SD, SU, simprocAttr, Ab, hlt, e, AU]
  intro w
  (repeat' (first | intro _ | refine And.intro ?_ ?_))
  all_goals first | omega | (unfold maxLen; omega) | skip
  ·rename_i hk2 u'
   rw [if_pos hk2] at hv
   exact Af.le ⟨(k + 1, u'), ⟨hlt, (by first | omega | (simp only; omega))⟩, rfl⟩ (by simp +contextual -dsimp only [↓SD, SU, simprocAttr, Int.natCast_add, hv, List.length_append]) (by simp +contextual -dsimp only [↓SD, SU, simprocAttr, hv, AB, IG, List.map_append, Ce])
  ·rename_i hk2
   rw [if_neg hk2, List.append_nil] at hv
   exact Af.le ⟨(k + 1, u), ⟨hlt, (by first | omega | (simp only; omega))⟩, rfl⟩ (by simp +contextual -dsimp only [↓SD, SU, simprocAttr, Int.natCast_add, hv]) (by simp +contextual -dsimp only [↓SD, SU, simprocAttr, hv])
 ·obtain rfl : k = l.length := by omega
  simp +contextual -dsimp only [↓SD, SU, simprocAttr, Ab, Nat.lt_irrefl, List.take_length, AB, IG]

theorem Uf (q : Pat) : (varsOf q.nodes).length ≤ Ac.bulk q := by
 have h1 := Jd q.nodes
 have h2 := Ai q.nodes
 have h3 : Ac.bulk q = Ac.bulk q.nodes + 1 := rfl
 omega
end Go.Proofs.YtppjinmlfcokaaaGreat
set_option linter.unusedVariables false
set_option linter.unusedSimpArgs false
set_option maxRecDepth 100000
namespace Go.Proofs.YtppjinmlfcokaaaGreat
open Go.RowKit Go.Proofs.YtppjinmlfcokaaaGreat.Av Go.Proofs.YtppjinmlfcokaaaGreat.Ml
open Go.Proofs.YtppjinmlfcokaaaGreat.Av.AVal (av)

theorem O2 (t : Tr) : (av t).cells = [av t] := by cases t; rw [FL]; rfl
theorem OE (t : Tr) (hp : Hp) : (av t).Cb hp = av t := by cases t; rw [FL]; rfl
theorem Aeq (t : Tr) (hp : Hp) : (av t).B5 hp = av t := by cases t; rw [FL]; rfl
theorem Afp (t : Tr) (hp : Hp) : (av t).pur hp = av t := AVal.nop t hp
theorem Afq (t : Tr) : (av t).one = true := by cases t; rw [FL]; rfl
theorem Af3 (t : Tr) : (av t).ok = true := AVal.ok t
theorem Bh (t : Sub) : (av t).cells.length = 7 := AVal.len t
theorem Bi (t : Sub) (hp : Hp) : (av t).pur hp = av t := AVal.nop t hp
theorem Bl (t : Sub) : AV.agg (List.take 7 (av t).cells) = av t := by
 obtain ⟨⟨n, ks⟩⟩ := t
 rw [Bb]; rfl
theorem BI (t : Sub) : (av t).ok = true := AVal.ok t
theorem AQ (t : Sub) (hp : Hp) : (av t).Cb hp = av t := by
 obtain ⟨⟨n, ks⟩⟩ := t
 rw [Bb]; rfl
theorem GV (x : AV) (h : x.ok = true) (F : Nat → AV) (esz i : Nat) (es : List AV) (ps : List (Nat × Ar)) (k : List AV → Prop) : L0 x F esz i es ps k = ((x.cells.length = esz ∧ i < es.length) ∧ Hr F esz (es.set i x) ps k) := by simp [L0, h]
end Go.Proofs.YtppjinmlfcokaaaGreat
set_option linter.unusedVariables false
set_option linter.unusedSimpArgs false
set_option maxRecDepth 100000
namespace Go.Proofs.YtppjinmlfcokaaaGreat
open Go.RowKit Go.Proofs.YtppjinmlfcokaaaGreat.Av Go.Proofs.YtppjinmlfcokaaaGreat.Ml
open Go.Proofs.YtppjinmlfcokaaaGreat.Av.AVal (av)

def hasName (q : Pat) (s : ByteArray) : Bool := (varsOf q.nodes).any fun x => decide (s = x)
def B1 (n : Node) (i : Nat) (s : ByteArray) : Bool :=
 if n.kind = 5 ∨ n.kind = 8 then decide (n.s = s)
 else if n.kind = 7 ∨ n.kind = 15 then decide ((i : Int) = 1) && decide (n.s = s)
 else if n.kind = 13 then decide (0 < (i : Int)) && hasName (n.Ae.getD (i - 1) default) s
 else false
mutual
def D7 (s : ByteArray) : Tr → Nat
 | .mk n ks => if n.kind = 3 then (if n.s = s then 1 else 0) else FK s n 0 ks
def FK (s : ByteArray) (n : Node) : Nat → List Tr → Nat
 | _, [] => 0
 | i, t :: ts => (if B1 n i s then 0 else D7 s t) + FK s n (i + 1) ts
end
theorem WG {s : ByteArray} {n : Node} : ∀ {ks : List Tr} {i : Nat}, (∀ k ∈ ks, D7 s k ≤ k.size) → FK s n i ks ≤ Tr.AJ ks
 | [], i, _ => by rw [FK]; exact Nat.zero_le _
 | t :: ts, i, h => by
  rw [FK, Tr.AJ]
  have h1 := h t (by simp)
  have h2 := WG (s := s) (n := n) (ks := ts) (i := i + 1) fun k hk => h k (by simp [hk])
  split <;> omega
theorem Ae2 (s : ByteArray) : ∀ t, D7 s t ≤ t.size := Tr.ind fun n ks ih => by
 rw [D7, Tr.size]
 have := WG (s := s) (n := n) (ks := ks) (i := 0) ih
 repeat' split
 all_goals omega

theorem N8 (q : Pat) (s : ByteArray) (hx : Ac.bulk q ≤ 4294967296) : Ah Tryz.prog 148 [av q, .str s] (.bool (hasName q s)) := by
 obtain ⟨l⟩ := q
 have hl := Ai l
 have hb : Ac.bulk l + 1 ≤ 4294967296 := hx
 refine IV.F rfl (by simp; exact ⟨AVal.clean _, Ad.str _⟩) (Ad.bool _) ?_
 simp +contextual -dsimp only [↓SD, SU, simprocAttr, IV, B7, Ab]
 refine Am (X := Nat) (fun k => ⟨[(1, .str s), (8, .sl (l.map av)), (9, .int .i64 l.length), (10, .int .i64 k)], []⟩) (fun k => k ≤ l.length ∧ ((varsOf (l.take k)).any fun x => decide (s = x)) = false) (fun k => l.length - k) 0 ⟨Nat.zero_le _, rfl⟩ (by simp +contextual -dsimp only [↓SD, SU, simprocAttr]) trivial ?_
 rintro k ⟨hk, hp⟩
 by_cases hlt : k < l.length
 ·have e := getD_map av l k .top hlt
  have hv := Ka hlt
  have hm := List.getElem_mem hlt
  have hin : l[k].kind = 2 → s = l[k].s → hasName ⟨l⟩ s = true := fun h1 h2 => by
   simp only [hasName, List.any_eq_true, decide_eq_true_eq]
   exact ⟨l[k].s, by simp only [varsOf, List.mem_filterMap]; exact ⟨l[k], hm, by rw [if_pos h1]⟩, h2⟩
  generalize l[k] = a at *
  simp +contextual -dsimp only [↓SD, SU, simprocAttr, Ab, hlt, e, AU]
  (repeat' (first | intro _ | refine And.intro ?_ ?_))
  all_goals first | omega | skip
  ·rename_i h1 h2
   rw [hin h1 h2.symm]
  ·rename_i h1 h2
   exact Af.le ⟨k + 1, ⟨⟨hlt, by rw [hv, if_pos h1, List.any_append, hp]; simp [Ne.symm h2]⟩, (by first | omega | (simp only; omega))⟩, rfl⟩ (by simp +contextual -dsimp only [↓SD, SU, simprocAttr, Int.natCast_add]) trivial
  ·rename_i h1
   exact Af.le ⟨k + 1, ⟨⟨hlt, by rw [hv, if_neg h1, List.append_nil, hp]⟩, (by first | omega | (simp only; omega))⟩, rfl⟩ (by simp +contextual -dsimp only [↓SD, SU, simprocAttr, Int.natCast_add]) trivial
 ·obtain rfl : k = l.length := by omega
  rw [List.take_length] at hp
  simp +contextual -dsimp only [↓SD, SU, simprocAttr, Ab, Nat.lt_irrefl]
  simp only [hasName, hp]

theorem WZ (n : Node) (ks : List Tr) (i : Nat) (s : ByteArray) (hn : Ac.bulk n ≤ 4294967296) (hi : i ≤ 4294967296) (h13 : n.kind = 13 → i ≤ n.Ae.length) : Ah Tryz.prog 165 [av (Tr.mk n ks), .int .i64 i, .str s] (.bool (B1 n i s)) := by
 refine Gr.F rfl (by simp; exact ⟨AVal.clean _, BB _, Ad.str _⟩) (Ad.bool _) ?_
 by_cases h : n.kind = 13 ∧ 0 < i
 ·obtain ⟨h1, h2⟩ := h
  obtain ⟨j, rfl⟩ : ∃ j, i = j + 1 := ⟨i - 1, by omega⟩
  have hlt : j < n.Ae.length := by have := h13 h1; omega
  have hj : ((j + 1 : Nat) : Int) - 1 = j := by omega
  have hj0 : (0 : Int) < ((j + 1 : Nat) : Int) := by omega
  have e := getD_map av n.Ae j .top hlt
  have hb : Ac.bulk n = Ac.bulk n.kind + Ac.bulk n.pos + Ac.bulk n.n + Ac.bulk n.s + Ac.bulk n.kids + Ac.bulk n.Ae + 1 := rfl
  have hm := Au (List.getElem_mem hlt)
  have hd : n.Ae.getD j default = n.Ae[j] := by simp [List.getD_eq_getElem?_getD, hlt]
  have hv : B1 n (j + 1) s = hasName n.Ae[j] s := by simp [B1, h1, hlt]
  have hq : Ac.bulk n.Ae[j] = Ac.bulk n.Ae[j].nodes + 1 := rfl
  have hl := Uf n.Ae[j]
  have C1 := Vm n.Ae[j].nodes (by omega)
  have C2 := Gd (varsOf n.Ae[j].nodes) s (by omega)
  rw [hv]
  clear hv
  generalize n.Ae[j] = q at *
  simp +contextual -dsimp only [↓SD, SU, simprocAttr, Gr, FL, Ab, h1, hj, hj0, hlt, e, B7]
  (repeat' (first | intro _ | refine And.intro ?_ ?_))
  all_goals first | omega | skip
  refine Aa _ C1 ?_
  simp +contextual -dsimp only [↓SD, SU, simprocAttr]
  refine Aa _ C2 ?_
  simp +contextual -dsimp only [↓SD, SU, simprocAttr, hasName]
 ·simp +contextual -dsimp only [↓SD, SU, simprocAttr, Gr, FL, Ab]
  (repeat' (first | intro _ | refine And.intro ?_ ?_))
  all_goals first | omega | (exact absurd ⟨‹_›, by omega⟩ h) | (simp [B1, *]; done) | (simp [B1, *]; omega) | trace_state
theorem VQ (n : Node) (i : Nat) (s : ByteArray) (hn : Ac.bulk n ≤ 4294967296) (hi : i ≤ 4294967296) (h13 : n.kind = 13 → i ≤ n.Ae.length) : Ah Tryz.prog 149 [av n, .int .i64 i, .str s] (.bool (B1 n i s)) := by
 refine Gn.F rfl (by simp; exact ⟨AVal.clean _, BB _, Ad.str _⟩) (Ad.bool _) ?_
 by_cases h : n.kind = 13 ∧ 0 < i
 ·obtain ⟨h1, h2⟩ := h
  obtain ⟨j, rfl⟩ : ∃ j, i = j + 1 := ⟨i - 1, by omega⟩
  have hlt : j < n.Ae.length := by have := h13 h1; omega
  have hj : ((j + 1 : Nat) : Int) - 1 = j := by omega
  have hj0 : (0 : Int) < ((j + 1 : Nat) : Int) := by omega
  have e := getD_map av n.Ae j .top hlt
  have hb : Ac.bulk n = Ac.bulk n.kind + Ac.bulk n.pos + Ac.bulk n.n + Ac.bulk n.s + Ac.bulk n.kids + Ac.bulk n.Ae + 1 := rfl
  have hm := Au (List.getElem_mem hlt)
  have hv : B1 n (j + 1) s = hasName n.Ae[j] s := by simp [B1, h1, hlt]
  have C1 := N8 n.Ae[j] s (by omega)
  rw [hv]
  clear hv
  generalize n.Ae[j] = q at *
  rw [B7] at C1
  simp +contextual -dsimp only [↓SD, SU, simprocAttr, Gn, As, Ab, h1, hj, hj0, hlt, e, B7]
  (repeat' (first | intro _ | refine And.intro ?_ ?_))
  all_goals first | omega | skip
  refine Aa _ C1 ?_
  simp +contextual -dsimp only [↓SD, SU, simprocAttr]
 ·simp +contextual -dsimp only [↓SD, SU, simprocAttr, Gn, As, Ab]
  (repeat' (first | intro _ | refine And.intro ?_ ?_))
  all_goals first | omega | (exact absurd ⟨‹_›, by omega⟩ h) | (simp [B1, *]; done) | (simp [B1, *]; omega) | trace_state

theorem AdO (s : ByteArray) (hs : s.size ≤ 4294967296) : ∀ t : Tr, t.ok → t.size ≤ 4294967296 → Ah Tryz.prog 119 [av t, .str s] (.int .i64 (D7 s t)) := Tr.ind fun n ks ih hok hsz => by
 rw [Tr.ok] at hok
 rw [Tr.size] at hsz
 obtain ⟨⟨k3, k13, kb⟩, koks⟩ := hok
 have hlen := Cy ks
 refine Gq.F rfl (by simp; exact ⟨AVal.clean _, Ad.str _⟩) (BB _) ?_
 by_cases h3 : n.kind = 3
 ·simp +contextual -dsimp only [↓SD, SU, simprocAttr, Gq, FL, Ab, h3]
  (repeat' (first | intro _ | refine And.intro ?_ ?_))
  all_goals rw [D7, if_pos h3]; simp [*]
 ·simp +contextual -dsimp only [↓SD, SU, simprocAttr, Gq, FL, Ab, h3]
  refine Am (X := Nat × Nat) (fun x => ⟨[(0, .obj [.int .i64 n.kind, .int .i64 n.pos, .int .i64 n.n, .str n.s, .sl (ks.map av), .sl (n.Ae.map av)]), (1, .str s), (5, .int .i64 x.2), (22, .sl (ks.map av)), (23, .int .i64 ks.length), (24, .int .i64 x.1)], []⟩) (fun x => x.1 ≤ ks.length ∧ D7 s (.mk n ks) = x.2 + FK s n x.1 (ks.drop x.1)) (fun x => ks.length - x.1) (0, 0) ⟨Nat.zero_le _, by rw [D7, if_neg h3, List.drop_zero]; simp⟩ (by simp +contextual -dsimp only [↓SD, SU, simprocAttr]) trivial ?_
  rintro ⟨k, c⟩ ⟨hk, hc⟩
  simp only at hk hc
  have hle := Ae2 s (.mk n ks)
  rw [Tr.size] at hle
  by_cases hlt : k < ks.length
  ·have e := getD_map av ks k .top hlt
   have hm := List.getElem_mem hlt
   have hsm := Cq hm
   have C1 := WZ n ks k s kb (by omega) (fun h => by have := k13 h; omega)
   have C2 := ih ks[k] hm (TB koks hm) (by omega)
   rw [List.drop_eq_getElem_cons hlt, FK] at hc
   rw [FL] at C1
   cases hb : B1 n k s with
   | true =>
    rw [hb] at C1 hc
    rw [if_pos rfl] at hc
    generalize ks[k] = t at *
    simp +contextual -dsimp only [↓SD, SU, simprocAttr, Ab, hlt, e, O2]
    refine Aa _ C1 ?_
    simp +contextual -dsimp only [↓SD, SU, simprocAttr]
    refine ⟨by omega, Af.le ⟨(k + 1, c), ⟨⟨hlt, by simp only; omega⟩, (by first | omega | (simp only; omega))⟩, rfl⟩ (by simp +contextual -dsimp only [↓SD, SU, simprocAttr, Int.natCast_add]) trivial⟩
   | false =>
    rw [hb] at C1 hc
    rw [if_neg Bool.false_ne_true] at hc
    generalize ks[k] = t at *
    simp +contextual -dsimp only [↓SD, SU, simprocAttr, Ab, hlt, e, O2]
    refine Aa _ C1 ?_
    simp +contextual -dsimp only [↓SD, SU, simprocAttr, OE]
    refine Aa _ C2 ?_
    simp +contextual -dsimp only [↓SD, SU, simprocAttr]
    refine ⟨by omega, by omega, Af.le ⟨(k + 1, c + D7 s t), ⟨⟨hlt, by simp only; omega⟩, (by first | omega | (simp only; omega))⟩, rfl⟩ (by simp +contextual -dsimp only [↓SD, SU, simprocAttr, Int.natCast_add]) trivial⟩
  ·obtain rfl : k = ks.length := by omega
   rw [List.drop_length, FK] at hc
   simp +contextual -dsimp only [↓SD, SU, simprocAttr, Ab, Nat.lt_irrefl]
   rw [hc]; simp
end Go.Proofs.YtppjinmlfcokaaaGreat
