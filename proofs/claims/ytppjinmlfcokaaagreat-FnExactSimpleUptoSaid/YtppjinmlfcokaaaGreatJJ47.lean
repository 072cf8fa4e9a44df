/-
 A CONSTANT PUT FOR A NAME, in a tree in rows of its own: replaced, by the program's abstract text. Conditions: none.
-/
import Derived.Test.YtppjinmlfcokaaaGreatJJ33
import Derived.Test.YtppjinmlfcokaaaGreatJJ36
import Derived.Test.YtppjinmlfcokaaaGreatJJ31
import Derived.Test.YtppjinmlfcokaaaGreatJJ43
import Derived.Test.YtppjinmlfcokaaaGreatJFlatT
import Derived.Test.YtppjinmlfcokaaaGreatJJ28
set_option linter.unusedVariables false
set_option linter.unusedSimpArgs false
set_option maxRecDepth 100000
namespace Go.Proofs.YtppjinmlfcokaaaGreat
open Go.RowKit Go.Proofs.YtppjinmlfcokaaaGreat.Av Go.Proofs.YtppjinmlfcokaaaGreat.Ml
open Go.Proofs.YtppjinmlfcokaaaGreat.Av.AVal (av)
open OVal (ov oh on)

def Ge (s : ByteArray) (a n : Node) (ks : List Tr) (j : Nat) : List Tr := BO s a n 0 (ks.take j) ++ ks.drop j
theorem VE {s : ByteArray} {a n : Node} {ks : List Tr} {j : Nat} (h : j ≤ ks.length) : (Ge s a n ks j).length = ks.length := by simp [Ge, D6]; omega
theorem AcR {s : ByteArray} {a n : Node} {ks : List Tr} {j : Nat} (h : j < ks.length) (h2 : j < (Ge s a n ks j).length) : (Ge s a n ks j)[j] = ks[j] := by
 simp only [Ge]
 rw [List.getElem_append_right (by rw [D6]; simp; omega)]
 simp [D6, Nat.min_eq_left (Nat.le_of_lt h)]
theorem Pv {s : ByteArray} {a n : Node} : ∀ (l : List Tr) (t : Tr) (i : Nat), BO s a n i (l ++ [t]) = BO s a n i l ++ [if B5 n (i + l.length) s = true then t else Dt s a t]
 | [], t, i => by simp [BO]
 | x :: r, t, i => by rw [List.cons_append, BO, BO, Pv r, List.cons_append, List.length_cons, show i + 1 + r.length = i + (r.length + 1) by omega]
theorem AcQ {s : ByteArray} {a n : Node} {ks : List Tr} {j : Nat} (h : j < ks.length) : (Ge s a n ks j).set j (if B5 n j s = true then ks[j] else Dt s a ks[j]) = Ge s a n ks (j + 1) := by
 have ht : (ks.take j).length = j := by simp; omega
 have hr : (BO s a n 0 (ks.take j)).length = j := by rw [D6, ht]
 simp only [Ge]
 rw [List.set_append_right _ _ (by omega), hr, Nat.sub_self, List.drop_eq_getElem_cons h, List.set_cons_zero, List.take_succ_eq_append_getElem h, Pv, ht, Nat.zero_add, List.append_assoc]
 rfl
theorem AcS (s : ByteArray) (a n : Node) (ks : List Tr) : Ge s a n ks ks.length = BO s a n 0 ks := by simp [Ge]
set_option maxHeartbeats 4000000 in
theorem UT (s : ByteArray) (hs : s.size ≤ 4294967296) (a : Node) (ha : a.Ai = []) : ∀ t : Tr, t.rk → t.size ≤ 600 → ∀ nm vs, AU Tryz.prog 121 [ov nm vs t, .str s, av (Tr.mk a [])] (oh nm vs t) (BW nm (Dt s a t)) := by
 refine Tr.ind fun n ks ih hrk hsz nm vs => ?_
 rw [Tr.rk] at hrk
 rw [Tr.size] at hsz
 have hkl := CD ks
 have hav : av (Tr.mk a []) = .obj [.int .i64 a.kind, .int .i64 a.pos, .int .i64 a.n, .str a.s, .sl [], .sl []] := by rw [FK, ha]; rfl
 rw [hav] at ih ⊢
 obtain ⟨K, hK⟩ : ∃ K, K = sub nm 0 := ⟨_, rfl⟩
 have hKg : 10000 ≤ K := by rw [hK]; exact Ci _ _
 have hKm : K ≠ nm := by rw [hK]; exact fun e => (InT.root (nm := sub nm 0)).ne e
 obtain ⟨H0, hH0⟩ : ∃ H0, H0 = oh nm vs (Tr.mk n ks) := ⟨_, rfl⟩
 have hs0 : Ax H0 (oh nm vs (Tr.mk n ks)) := by rw [hH0]; exact OVal.self _ _ _
 obtain ⟨q1, q2, q3, q4⟩ := DN hs0
 rw [← hK] at q1 q2
 rw [← hH0]
 by_cases h3 : n.kind = 3
 ·have E3 := eq_true h3
  have hks : ks = [] := List.eq_nil_of_length_eq_zero (hrk.1.1 (.inr (.inr (.inl h3))))
  subst hks
  by_cases hn : n.s = s
  ·have En := eq_true hn
   have e : Dt s a (.mk n []) = .mk { a with pos := n.pos } [] := by rw [Dt, if_pos h3, if_pos hn]
   rw [e]
   refine CM.H rfl ?_
   simp +contextual -dsimp (maxSteps := 2000000) only [↓SD, SU, simprocAttr, CM, AD, q1, q2, exB, E3, En]
   intro w
   have z0 : 10000 ≤ sub nm 0 := Ci _ _
   have z1 : 10000 ≤ sub nm 1 := Ci _ _
   have z2 : sub nm 0 ≠ sub nm 1 := fun e => by have := (Em e).2; omega
   have z3 := Ek nm 0
   have z4 := Ek nm 1
   refine Af.FA 38 0 4 (sub nm 0) 55 1 AZ rfl Nat.zero_lt_one rfl (by omega) fun u1 => ?_
   refine Af.FA 38 0 5 (sub nm 1) 86 1 (b := ⟨w, false, 102, 6, [.agg [.int .i64 a.kind, .int .i64 n.pos, .int .i64 a.n, .str a.s, .row (sub nm 0) u1 0, .Aj]]⟩) (by rw [BE (by omega)]; exact AZ) rfl Nat.zero_lt_one rfl (by omega) fun u2 => ?_
   refine Af.Afs 6 38 nm (v := w) (a := 0) (o := 0) rfl (by rw [BE (by omega)]; exact AZ) rfl fun w' => ?_
   obtain ⟨va, hva⟩ : ∃ va : Nat → Nat, va = fun q => if q = nm then w' else if q = sub nm 0 then u1 else u2 := ⟨_, rfl⟩
   have c1 : va nm = w' := by rw [hva]; simp
   have c2 : va (sub nm 0) = u1 := by rw [hva]; dsimp only; rw [if_neg (by omega), if_pos rfl]
   have c3 : va (sub nm 1) = u2 := by rw [hva]; dsimp only; rw [if_neg (by omega), if_neg (fun e => z2 e.symm)]
   have hoh : oh nm va (Tr.mk { a with pos := n.pos } []) = [(sub nm 0, ⟨u1, false, 55, 1, []⟩), (sub nm 1, ⟨u2, false, 86, 1, []⟩), (nm, ⟨w', false, 102, 6, [.agg [.int .i64 a.kind, .int .i64 n.pos, .int .i64 a.n, .str a.s, .row (sub nm 0) u1 0, .row (sub nm 1) u2 0]]⟩)] := by
    rw [Oj, B8, B8, ha, Dv, Dv, c1, c2, c3, exB]; rfl
   dsimp only
   obtain ⟨H, hH⟩ : ∃ H, H = ((nm, (⟨w', false, 102, 6, [.agg [.int .i64 a.kind, .int .i64 n.pos, .int .i64 a.n, .str a.s, .row (sub nm 0) u1 0, .row (sub nm 1) u2 0]]⟩ : Box)) :: B1 [38] ((sub nm 1, (⟨u2, false, 86, 1, []⟩ : Box)) :: (38, ⟨w, false, 102, 6, [.agg [.int .i64 a.kind, .int .i64 n.pos, .int .i64 a.n, .str a.s, .row (sub nm 0) u1 0, .row (sub nm 1) u2 0]]⟩) :: (sub nm 0, ⟨u1, false, 55, 1, []⟩) :: (38, ⟨w, false, 102, 6, [.agg [.int .i64 a.kind, .int .i64 n.pos, .int .i64 a.n, .str a.s, .row (sub nm 0) u1 0, .Aj]]⟩) :: (38, ⟨w, false, 102, 6, [.agg [.int .i64 a.kind, .int .i64 n.pos, .int .i64 a.n, .str a.s, .Aj, .Aj]]⟩) :: H0) : Hp) := ⟨_, rfl⟩
   have hle : Ax H (oh nm va (Tr.mk { a with pos := n.pos } [])) := by
    rw [hoh, hH]
    refine ⟨?_, ?_, AZ, trivial⟩
    ·rw [BE (by omega), BX (by simp; omega), BE (by omega), BE (by omega)]; exact AZ
    ·rw [BE (by omega), BX (by simp; omega)]; exact AZ
   have hnm : An H nm = some ⟨w', false, 102, 6, [.agg [.int .i64 a.kind, .int .i64 n.pos, .int .i64 a.n, .str a.s, .row (sub nm 0) u1 0, .row (sub nm 1) u2 0]]⟩ := by rw [hH]; exact AZ
   change Af ⟨_, ((nm, (⟨w', false, 102, 6, [.agg [.int .i64 a.kind, .int .i64 n.pos, .int .i64 a.n, .str a.s, .row (sub nm 0) u1 0, .row (sub nm 1) u2 0]]⟩ : Box)) :: B1 [38] ((sub nm 1, (⟨u2, false, 86, 1, []⟩ : Box)) :: (38, ⟨w, false, 102, 6, [.agg [.int .i64 a.kind, .int .i64 n.pos, .int .i64 a.n, .str a.s, .row (sub nm 0) u1 0, .row (sub nm 1) u2 0]]⟩) :: (sub nm 0, ⟨u1, false, 55, 1, []⟩) :: (38, ⟨w, false, 102, 6, [.agg [.int .i64 a.kind, .int .i64 n.pos, .int .i64 a.n, .str a.s, .row (sub nm 0) u1 0, .Aj]]⟩) :: (38, ⟨w, false, 102, 6, [.agg [.int .i64 a.kind, .int .i64 n.pos, .int .i64 a.n, .str a.s, .Aj, .Aj]]⟩) :: H0) : Hp)⟩ _
   rw [← hH]
   refine Af.post (oh nm va (Tr.mk { a with pos := n.pos } [])) ?_
   simp +contextual -dsimp (maxSteps := 2000000) only [↓SD, SU, simprocAttr, hnm, false_and]
   exact ⟨hle, va, by rw [AD, c1], rfl⟩
  ·have e : Dt s a (.mk n []) = .mk n [] := by rw [Dt, if_pos h3, if_neg hn]
   rw [e]
   refine CM.H rfl ?_
   simp +contextual -dsimp (maxSteps := 2000000) only [↓SD, SU, simprocAttr, CM, AD, q1, q2, exB, E3, hn]
   refine Af.post (oh nm vs (Tr.mk n [])) ?_
   simp +contextual -dsimp (maxSteps := 2000000) only [↓SD, SU, simprocAttr, AD, q1, false_and]
   exact ⟨hs0, vs, by rw [AD], rfl⟩
 ·have e : Dt s a (.mk n ks) = .mk n (BO s a n 0 ks) := by rw [Dt, if_neg h3]
  have E3 := eq_false h3
  rw [e]
  refine CM.H rfl ?_
  simp +contextual -dsimp (maxSteps := 2000000) only [↓SD, SU, simprocAttr, CM, AD, q1, q2, exB, E3]
  refine Am (X := RwS) (fun x => ⟨[(0, .ptr nm (vs nm) 0 0), (1, .str s), (2, .obj [.int .i64 a.kind, .int .i64 a.pos, .int .i64 a.n, .str a.s, .sl [], .sl []]), (42, .row K (vs K) ks.length), (43, .int .i64 ks.length), (44, .int .i64 x.j)], oh nm x.vs (Tr.mk n (Ge s a n ks x.j))⟩) (fun x => x.j ≤ ks.length ∧ x.vs nm = vs nm ∧ x.vs K = vs K) (fun x => ks.length - x.j) ⟨0, vs⟩ ⟨Nat.zero_le _, rfl, rfl⟩ (by simp +contextual -dsimp only [↓SD, SU, simprocAttr]) (by exact hs0) ?_
  clear q1 q2 q3 q4 hs0 hH0 H0
  rintro ⟨j, v0⟩ ⟨hj, hv1, hv2⟩
  dsimp only at hj hv1 hv2 ⊢
  have hLl := VE (s := s) (a := a) (n := n) hj
  obtain ⟨H0, hH0⟩ : ∃ H0, H0 = oh nm v0 (Tr.mk n (Ge s a n ks j)) := ⟨_, rfl⟩
  have hs0 : Ax H0 (oh nm v0 (Tr.mk n (Ge s a n ks j))) := by rw [hH0]; exact OVal.self _ _ _
  obtain ⟨q1, q2, q3, q4⟩ := DN hs0
  rw [← hK] at q1 q2 q3
  rw [hv1, hv2, hLl] at q1
  rw [hv2] at q2
  rw [← hH0]
  by_cases hlt : j < ks.length
  ·have hLj : j < (Ge s a n ks j).length := by omega
   have hg := AcR (s := s) (a := a) (n := n) hlt hLj
   have e1 := Ep K v0 (Ge s a n ks j) hLj .top
   have hel : (ovL K v0 0 (Ge s a n ks j)).length = ks.length := by rw [B2, hLl]
   have hm := List.getElem_mem hlt
   have hkr := Cl.1 hrk.2 _ hm
   have hks := Cr hm
   have C := ih ks[j] hm hkr (by omega) (sub K j) v0
   have CB := WU n (Ge s a n ks j) j s hrk.1.2.2.2.2.2.2 (by omega) (fun h => by have := hrk.1.2.2.1 h; omega)
   have q5 := q3 j hLj
   rw [hg] at q5 e1
   have hst := AcQ (s := s) (a := a) (n := n) hlt
   have hset := fun v1 (hp : Hp) => AcD (K := K) (vs := v0) (v1 := v1) hLj (Dt s a ks[j]) (hp := hp)
   have hL1 := VE (s := s) (a := a) (n := n) (ks := ks) (j := j + 1) (by omega)
   have hlend : ∀ H, Ax H (oh nm v0 (Tr.mk n (Ge s a n ks j))) → (AV.ptr nm (vs nm) 0 0).Cf (B3 (on nm (Tr.mk n (Ge s a n ks j))) H) = av (Tr.mk n (Ge s a n ks j)) := fun H h => by
    have := MT (nm := nm) (vs := v0) (y := Tr.mk n (Ge s a n ks j)) h
    rw [AD, hv1] at this
    exact this
   obtain ⟨es0, q0⟩ := Ca q5
   rw [AD] at e1
   rw [AD] at C
   obtain ⟨E, hE⟩ : ∃ E, E = ovL K v0 0 (Ge s a n ks j) := ⟨_, rfl⟩
   rw [← hE] at q2 e1 hel hset
   rw [hv2] at hset
   cases hb : B5 n j s with
   | true =>
    rw [hb] at CB hst
    simp only [if_true] at hst
    simp +contextual -dsimp (maxSteps := 2000000) only [↓SD, SU, simprocAttr, hlt, hel, e1, AD, q0, q1, q2, exB]
    refine Cd (on nm (Tr.mk n (Ge s a n ks j))) CB rfl (Aw (hlend H0 hs0) rfl) ?_
    simp +contextual -dsimp (maxSteps := 2000000) only [↓SD, SU, simprocAttr, hlt, hel, e1, AD, q0, q1, q2, exB]
    have heq : Ge s a n ks (j + 1) = Ge s a n ks j := by rw [← hst, ← hg]; exact List.set_getElem_self hLj
    exact ⟨by omega, Af.le ⟨⟨j + 1, v0⟩, ⟨⟨hlt, hv1, hv2⟩, (by first | omega | (simp only; omega))⟩, rfl⟩ (by simp +contextual -dsimp only [↓SD, SU, simprocAttr, Int.natCast_add]) (by dsimp only; rw [heq]; exact hs0)⟩
   | false =>
    rw [hb] at CB hst
    simp only [Bool.false_eq_true, if_false] at hst
    simp +contextual -dsimp (maxSteps := 2000000) only [↓SD, SU, simprocAttr, hlt, hel, e1, AD, q0, q1, q2, exB]
    refine Cd (on nm (Tr.mk n (Ge s a n ks j))) CB rfl (Aw (hlend H0 hs0) rfl) ?_
    rw [hst] at hset
    simp +contextual -dsimp (maxSteps := 2000000) only [↓SD, SU, simprocAttr, hlt, hel, e1, AD, q0, q1, q2, exB]
    obtain ⟨L, hL⟩ : ∃ L, L = Ge s a n ks j := ⟨_, rfl⟩
    obtain ⟨L', hL'⟩ : ∃ L', L' = Ge s a n ks (j + 1) := ⟨_, rfl⟩
    rw [← hL'] at hset hL1
    generalize Dt s a ks[j] = t' at *
    generalize ks[j] = t at *
    refine ⟨?_, ?_⟩
    all_goals
     refine As (on (sub K j) t) C (Dd q5) ?_
     rintro r hp' ⟨v1, rfl, rfl⟩ H hH
     have hKn : ¬ InT (sub K j) K := fun h => h.ne rfl
     have hnn : ¬ InT (sub K j) nm := fun h => by have h1 := h.le; have h2 := Ek nm 0; have h3 := Ek K j; rw [← hK] at h2; omega
     have p1 := Ei hH hnn q1
     have p2 := Ei hH hKn q2
     have ho := Cb hH
     obtain ⟨es1, p0⟩ := Ca ho
     simp +contextual -dsimp (maxSteps := 2000000) only [↓SD, SU, simprocAttr, hlt, hel, e1, AD, p0, p1, p2, exB]
     have g1 : glue (sub K j) v1 v0 nm = vs nm := by rw [DT hnn, hv1]
     have g2 : glue (sub K j) v1 v0 K = vs K := by rw [DT hKn, hv2]
     have hPn : ∀ q, InT (sub nm 1) q → ¬ InT (sub K j) q := fun q h h2 => by rw [hK] at h2; exact BG (i := 0) (j := 1) (by omega) h2.up h
     have g3 : glue (sub K j) v1 v0 (sub nm 1) = v0 (sub nm 1) := DT (hPn _ .root)
     have hPK : ¬ InT (sub nm 1) K := fun h => by rw [hK] at h; exact BG (i := 0) (j := 1) (by omega) .root h
     refine ⟨by omega, Af.le ⟨⟨j + 1, glue (sub K j) v1 v0⟩, ⟨⟨hlt, g1, g2⟩, (by first | omega | (simp only; omega))⟩, rfl⟩ (by simp +contextual -dsimp only [↓SD, SU, simprocAttr, Int.natCast_add]) ?_⟩
     dsimp only
     rw [← hL', Oj, ← hK, g1, g2, g3, hL1, Hy _ _ _ hPn]
     refine Ap.2 ⟨hset v1 _ (fun k hk hkj => ?_) (Al hKn ho) AZ, Ap.2 ⟨Al hPK (BC hH hPn q4), ?_, trivial⟩⟩
     ·exact Al (fun h => h.ne rfl) (BC hH (fun q h1 h2 => hkj (h1.sib h2)) (q3 k hk))
     ·rw [BE hKm]; exact p1
  ·obtain rfl : j = ks.length := by omega
   rw [AcS] at *
   simp +contextual -dsimp (maxSteps := 2000000) only [↓SD, SU, simprocAttr, Nat.lt_irrefl, q1]
   refine Af.post (oh nm v0 (Tr.mk n (BO s a n 0 ks))) ?_
   simp +contextual -dsimp (maxSteps := 2000000) only [↓SD, SU, simprocAttr, AD, q1, false_and]
   exact ⟨hs0, v0, by rw [AD, hv1], rfl⟩
end Go.Proofs.YtppjinmlfcokaaaGreat
set_option linter.unusedVariables false
set_option linter.unusedSimpArgs false
set_option maxRecDepth 100000
namespace Go.Proofs.YtppjinmlfcokaaaGreat
open Go.RowKit Go.Proofs.YtppjinmlfcokaaaGreat.Av Go.Proofs.YtppjinmlfcokaaaGreat.Ml
open Go.Proofs.YtppjinmlfcokaaaGreat.Av.AVal (av)
open OVal (ov oh on)

theorem AeM {α : Type} {l : List α} (h : l.length = 2) : ∃ a b, l = [a, b] := by
 match l, h with
 | [a, b], _ => exact ⟨a, b, rfl⟩
set_option maxHeartbeats 4000000 in
theorem Aa1 : ∀ t : Tr, t.rk → t.size ≤ 600 → ∀ nm vs, AU Tryz.prog 58 [ov nm vs t] (oh nm vs t) (BW nm (AW t)) := by
 rintro ⟨n, ks⟩ hrk hsz nm vs
 rw [Tr.rk] at hrk
 rw [Tr.size] at hsz
 obtain ⟨K, hK⟩ : ∃ K, K = sub nm 0 := ⟨_, rfl⟩
 have hKm : K ≠ nm := by rw [hK]; exact fun e => (InT.root (nm := sub nm 0)).ne e
 obtain ⟨H0, hH0⟩ : ∃ H0, H0 = oh nm vs (Tr.mk n ks) := ⟨_, rfl⟩
 have hs0 : Ax H0 (oh nm vs (Tr.mk n ks)) := by rw [hH0]; exact OVal.self _ _ _
 obtain ⟨q1, q2, q3, q4⟩ := DN hs0
 rw [← hK] at q1 q2 q3
 rw [AW, ← hH0]
 by_cases h7 : n.kind = 7
 ·have E7 := eq_true h7
  obtain ⟨k0, k1, rfl⟩ := AeM (hrk.1.2.1 h7)
  have r0 := Cl.1 hrk.2 k0 (by simp)
  have r1 := Cl.1 hrk.2 k1 (by simp)
  rw [Tr.AM, Tr.AM, Tr.AM] at hsz
  have eL : ovL K vs 0 [k0, k1] = [.ptr (sub K 0) (vs (sub K 0)) 0 0, .ptr (sub K 1) (vs (sub K 1)) 0 0] := by simp only [ovL, AD]
  have p0 : Ax H0 (oh (sub K 0) vs k0) := q3 0 (by simp)
  have p1 : Ax H0 (oh (sub K 1) vs k1) := q3 1 (by simp)
  rw [eL] at q2
  have C := KF k0 (by omega)
  obtain ⟨es0, b0⟩ := Ca p0
  obtain ⟨es1, b1⟩ := Ca p1
  have hlend := EZ (AD (sub K 0) vs k0).symm p0
  have hg0 : [k0, k1].getD 0 (Tr.mk default []) = k0 := rfl
  have hg1 : [k0, k1].getD 1 (Tr.mk default []) = k1 := rfl
  rw [hg0, hg1]
  cases hp : Ew k0 with
  | false =>
   rw [hp] at C
   rw [if_neg (fun h => by cases h.2)]
   refine Ds.H rfl ?_
   simp +contextual -dsimp (maxSteps := 2000000) only [↓SD, SU, simprocAttr, Ds, AD, q1, q2, exB, E7, b0]
   refine Cd (on (sub K 0) k0) C rfl (Aw hlend rfl) ?_
   simp +contextual -dsimp (maxSteps := 2000000) only [↓SD, SU, simprocAttr, q1]
   refine Af.post (oh nm vs (Tr.mk n [k0, k1])) ?_
   simp +contextual -dsimp (maxSteps := 2000000) only [↓SD, SU, simprocAttr, AD, q1, false_and]
   exact ⟨hs0, vs, by rw [AD], rfl⟩
  | true =>
   rw [hp] at C
   rw [if_pos ⟨h7, rfl⟩]
   obtain ⟨m0, m1, m2⟩ := IU r0 hp
   have hsn : n.s.size ≤ 4294967296 := by
    have b6 := hrk.1.2.2.2.2.2.2
    have b5 : Ac.bulk n = Ac.bulk n.kind + Ac.bulk n.pos + Ac.bulk n.n + Ac.bulk n.s + Ac.bulk n.kids + Ac.bulk n.Ai + 1 := rfl
    have c6 : Ac.bulk n.s = n.s.size + 1 := rfl
    omega
   have R := UT n.s hsn k0.hd m2 k1 r1 (by omega) (sub K 1) vs
   rw [← m0] at R
   refine Ys (sub K 1) nm ?_
   refine Ds.H rfl ?_
   simp +contextual -dsimp (maxSteps := 2000000) only [↓SD, SU, simprocAttr, Ds, AD, q1, q2, exB, E7, b0]
   refine Cd (on (sub K 0) k0) C rfl (Aw hlend rfl) ?_
   simp +contextual -dsimp (maxSteps := 2000000) only [↓SD, SU, simprocAttr, q1]
   refine Eh (Af.Afe (on (sub K 0) k0) (Af.here ?_))
   obtain ⟨H1, hH1⟩ : ∃ H1, H1 = B3 (on (sub K 0) k0) H0 := ⟨_, rfl⟩
   have hnn : ¬ InT (sub K 0) nm := fun h => by have h1 := h.le; have h2 := Ek nm 0; have h3 := Ek K 0; rw [← hK] at h2; omega
   have hKn : ¬ InT (sub K 0) K := fun h => h.ne rfl
   have a1 : An H1 nm = An H0 nm := by rw [hH1, BH (Gl hnn)]
   have a2 : An H1 K = An H0 K := by rw [hH1, BH (Gl hKn)]
   have a3 : Ax H1 (oh (sub K 1) vs k1) := by
    rw [hH1]
    exact Jr (fun p hp => Gl (fun h => BG (i := 0) (j := 1) (by omega) h (OVal.inh hp))) p1
   rw [q1] at a1
   rw [q2] at a2
   rw [← hH1] at hlend ⊢
   obtain ⟨es2, b2⟩ := Ca a3
   rw [AD] at R
   simp +contextual -dsimp (maxSteps := 2000000) only [↓SD, SU, simprocAttr, a1, a2, exB, b2, hlend, false_and]
   refine As (on (sub K 1) k1) R (Dd a3) ?_
   rintro r hp' ⟨v1, rfl, rfl⟩ H hH
   have ho := Cb hH
   generalize Dt n.s k0.hd k1 = T at *
   obtain ⟨es3, b3⟩ := Ca ho
   simp +contextual -dsimp (maxSteps := 2000000) only [↓SD, SU, simprocAttr, AD, b3]
   refine Af.post (oh (sub K 1) v1 T) ?_
   simp +contextual -dsimp (maxSteps := 2000000) only [↓SD, SU, simprocAttr, AD, b3, false_and]
   exact ⟨ho, v1, by rw [AD], rfl⟩
 ·have E7 := eq_false h7
  rw [if_neg (fun h => h7 h.1)]
  refine Ds.H rfl ?_
  simp +contextual -dsimp (maxSteps := 2000000) only [↓SD, SU, simprocAttr, Ds, AD, q1, q2, exB, E7]
  refine Af.post (oh nm vs (Tr.mk n ks)) ?_
  simp +contextual -dsimp (maxSteps := 2000000) only [↓SD, SU, simprocAttr, AD, q1, false_and]
  exact ⟨hs0, vs, by rw [AD], rfl⟩
end Go.Proofs.YtppjinmlfcokaaaGreat
set_option linter.unusedVariables false
set_option linter.unusedSimpArgs false
set_option maxRecDepth 100000
namespace Go.Proofs.YtppjinmlfcokaaaGreat
open Go.RowKit Go.Proofs.YtppjinmlfcokaaaGreat.Av Go.Proofs.YtppjinmlfcokaaaGreat.Ml
open Go.Proofs.YtppjinmlfcokaaaGreat.Av.AVal (av)
open OVal (ov oh on)

set_option maxHeartbeats 4000000 in
theorem Q3 (nm : Nat) (p : Program) (hx : Ac.bulk p ≤ 4294967296) : AU Tryz.prog 26 [av p] [] (BW nm (Dh AW p)) := by
 obtain ⟨q1, q2, q3, q4⟩ := Ck hx
 have C := ER p hx
 rw [Ad] at C
 cases hb : Db p with
 | false =>
  rw [hb] at C
  rw [Dh, if_neg (by rw [hb]; simp)]
  refine C9 (Post := fun r hp' => r = .agg [.Aj, .Aj] ∧ hp' = []) (EN.H rfl ?_) ?_
  case refine_2 =>
   rintro r hp' ⟨rfl, rfl⟩
   refine Af.Vz 0 0 (sub nm 0) 72 3 rfl rfl fun u => ?_
   refine Af.Vz 0 1 (sub nm 1) 49 6 rfl rfl fun v => ?_
   have hne : sub nm 1 ≠ sub nm 0 := fun e => by have := (Em e).2; omega
   refine Af.le (t := ⟨[(0, .agg [.row (sub nm 0) u 0, .row (sub nm 1) v 0])], [(sub nm 0, ⟨u, false, 72, 3, []⟩), (sub nm 1, ⟨v, false, 49, 6, []⟩)]⟩) ⟨fun q => if q = sub nm 0 then u else v, ?_, ?_⟩ (by simp +contextual -dsimp only [↓SD, SU, simprocAttr]) ⟨?_, AZ, trivial⟩
   ·rw [AA, if_pos rfl, if_neg hne]; rfl
   ·rw [BP, B8, B8, EL, Dv, Dv, if_pos rfl, if_neg hne]; rfl
   ·rw [BE hne]; exact AZ
  simp +contextual -dsimp (maxSteps := 2000000) only [↓SD, SU, simprocAttr, EN, Ad]
  intro v2
  refine Ab _ C ?_
  simp +contextual -dsimp (maxSteps := 2000000) only [↓SD, SU, simprocAttr]
  refine Af.post [] ?_
  simp +contextual -dsimp (maxSteps := 2000000) only [↓SD, SU, simprocAttr]
 | true =>
  rw [hb] at C
  obtain ⟨h1, h2, h3, h4, h5, h6⟩ := D5 hx hb
  obtain ⟨f1, f2, f3, f4, f5⟩ := CJ hx hb
  have hk : ∀ i, i < p.nodes.length → ∀ k ∈ Bp p.nodes i, (i : Int) < k ∧ k < p.nodes.length := fun i hi k hk => DM f3 hi hk
  obtain ⟨g, hg⟩ : ∃ g, g = sub nm 2 := ⟨_, rfl⟩
  have hgg : 10000 ≤ g := by rw [hg]; exact Ci _ _
  have hge2 : ∀ q, q < 10000 → (q == g) = false := fun q hq => beq_eq_false_iff_ne.2 (by omega)
  have hg3 : ¬ InT g 3 := fun h => by have := h.le; omega
  have G := Nj p.nodes hk q2 p.nodes.length g 0 (by omega) (by omega)
  rw [show Bx p.nodes p.nodes.length 0 = A2 p.nodes 0 from rfl, show ((0 : Nat) : Int) = 0 from rfl] at G
  have hrk := LV hx hb
  have hsz : (A2 p.nodes 0).size ≤ 600 := by have := h4; omega
  have hR := Lj (R := AW) (fun t h => Gj h) _ hrk
  have RW := Pu AW 58 (fun t h => Gj h) (fun t h1 h2 q _ => Aa1 t h1 h2 q) _ hrk hsz g hgg
  have PO := Gz nm p.types (Bh AW (A2 p.nodes 0)) (UR _ hR.1) (by omega) q1
  have hlen := Di (Bh AW (A2 p.nodes 0)) 0
  rw [Dh, if_pos hb]
  refine EN.H rfl ?_
  have hle : (BF 0 (Bh AW (A2 p.nodes 0))).length ≤ 600 := by omega
  clear hlen
  have hlt : ¬ (600 < ((BF 0 (Bh AW (A2 p.nodes 0))).length : Int)) := by omega
  generalize BF 0 (Bh AW (A2 p.nodes 0)) = L at *
  generalize Bh AW (A2 p.nodes 0) = T' at *
  generalize A2 p.nodes 0 = T at *
  simp +contextual -dsimp (maxSteps := 2000000) only [↓SD, SU, simprocAttr, EN, Ad]
  intro v2
  refine Ab _ C ?_
  simp +contextual -dsimp (maxSteps := 2000000) only [↓SD, SU, simprocAttr]
  refine ⟨?_, ?_⟩
  ·skip
   refine As [] G (by simp +contextual -dsimp only [↓SD, SU, simprocAttr]) ?_
   rintro r hp' ⟨vs, rfl, rfl⟩ H hH
   rw [Bs] at hH
   have o1 := NI hgg hH
   have l1 : Ax H (oh g vs T) := by rw [hH]; exact Bz (OVal.self _ _ _)
   have h2a : An H 2 = some (⟨v2, false, 31, 2, [.agg [.Aj, .Aj]]⟩ : Box) := (o1 2 (by omega)).trans (by simp [An])
   obtain ⟨es0, b0⟩ := Ca l1
   have RW := RW vs
   rw [AD] at RW
   simp +contextual -dsimp (maxSteps := 2000000) only [↓SD, SU, simprocAttr, AD, b0, hge2, false_and]
   refine ⟨?_, ?_⟩
   ·skip
    refine As (on g T) RW (Dd l1) ?_
    rintro r hp2 ⟨v1, rfl, rfl⟩ H2 hH2
    have o2 := MK hgg hH2
    have l2 := Cb hH2
    have h2b : An H2 2 = some (⟨v2, false, 31, 2, [.agg [.Aj, .Aj]]⟩ : Box) := (o2 2 (by omega)).trans (by simp [An, h2a])
    obtain ⟨es1, b1⟩ := Ca l2
    simp +contextual -dsimp (maxSteps := 2000000) only [↓SD, SU, simprocAttr, AD, b1, hge2, false_and]
    refine ⟨?_, ?_⟩
    ·skip
     refine Dp (on g T') PO (Aw (by simp +contextual -dsimp only [↓SD, SU, simprocAttr]) (Aw (EZ (AD g v1 T').symm l2) rfl)) ?_
     rintro r hp3 ⟨v4, rfl, rfl⟩
     refine ⟨⟨GA _ _ _, Fh _ _ _⟩, ?_⟩
     intro H3 hH3
     have o3 := FT hH3
     have l3 : Ax H3 (oh nm v4 (⟨p.types, L⟩ : Program)) := by rw [hH3]; exact Bz (OVal.self _ _ _)
     have h2c : An H3 2 = some (⟨v2, false, 31, 2, [.agg [.Aj, .Aj]]⟩ : Box) := (o3 2 (by omega)).trans (by simp [An, h2b])
     have l3' := l3
     rw [BP, Ap] at l3'
     have r0 := Aq l3'.1
     have r1 := Aq l3'.2
     clear o1 o2 o3 l1 l2 b0 b1 hH hH2 hH3 RW
     simp +contextual -dsimp (maxSteps := 2000000) only [↓SD, SU, simprocAttr, AA, h2c, r0, r1, AQ, false_and]
     intro v3
     simp +contextual -dsimp (maxSteps := 2000000) only [↓SD, SU, simprocAttr, AA, h2c, r0, r1, AQ, hlt, false_and]
     refine Af.post (oh nm v4 (⟨p.types, L⟩ : Program)) ?_
     simp +contextual -dsimp (maxSteps := 2000000) only [↓SD, SU, simprocAttr, r0, r1, AQ, false_and]
     exact ⟨KC (KC (KC l3 (by omega)) (by omega)) (by omega), v4, by rw [AA], rfl⟩
    ·intro v3
     refine Dp (on g T') PO (Aw (by simp +contextual -dsimp only [↓SD, SU, simprocAttr]) (Aw (EZ (AD g v1 T').symm (Al hg3 l2)) rfl)) ?_
     rintro r hp3 ⟨v4, rfl, rfl⟩
     refine ⟨⟨GA _ _ _, Fh _ _ _⟩, ?_⟩
     intro H3 hH3
     have o3 := FT hH3
     have l3 : Ax H3 (oh nm v4 (⟨p.types, L⟩ : Program)) := by rw [hH3]; exact Bz (OVal.self _ _ _)
     have h2c : An H3 2 = some (⟨v2, false, 31, 2, [.agg [.Aj, .Aj]]⟩ : Box) := (o3 2 (by omega)).trans (by simp [An, h2b])
     have h3c : An H3 3 = some (⟨v3, false, 31, 2, [.agg [.Aj, .Aj]]⟩ : Box) := (o3 3 (by omega)).trans (by simp [An])
     have l3' := l3
     rw [BP, Ap] at l3'
     have r0 := Aq l3'.1
     have r1 := Aq l3'.2
     clear o1 o2 o3 l1 l2 b0 b1 hH hH2 hH3 RW
     simp +contextual -dsimp (maxSteps := 2000000) only [↓SD, SU, simprocAttr, AA, h2c, h3c, r0, r1, AQ, hlt, false_and]
     refine Af.post (oh nm v4 (⟨p.types, L⟩ : Program)) ?_
     simp +contextual -dsimp (maxSteps := 2000000) only [↓SD, SU, simprocAttr, r0, r1, AQ, false_and]
     exact ⟨KC (KC l3 (by omega)) (by omega), v4, by rw [AA], rfl⟩
   ·intro v3
    refine As (on g T) RW (Dd (Al hg3 l1)) ?_
    rintro r hp2 ⟨v1, rfl, rfl⟩ H2 hH2
    have o2 := MK hgg hH2
    have l2 := Cb hH2
    have h2b : An H2 2 = some (⟨v2, false, 31, 2, [.agg [.Aj, .Aj]]⟩ : Box) := (o2 2 (by omega)).trans (by simp [An, h2a])
    have h3b : An H2 3 = some (⟨v3, false, 31, 2, [.agg [.Aj, .Aj]]⟩ : Box) := (o2 3 (by omega)).trans (by simp [An])
    obtain ⟨es1, b1⟩ := Ca l2
    simp +contextual -dsimp (maxSteps := 2000000) only [↓SD, SU, simprocAttr, AD, b1, hge2, false_and]
    refine Dp (on g T') PO (Aw (by simp +contextual -dsimp only [↓SD, SU, simprocAttr]) (Aw (EZ (AD g v1 T').symm l2) rfl)) ?_
    rintro r hp3 ⟨v4, rfl, rfl⟩
    refine ⟨⟨GA _ _ _, Fh _ _ _⟩, ?_⟩
    intro H3 hH3
    have o3 := FT hH3
    have l3 : Ax H3 (oh nm v4 (⟨p.types, L⟩ : Program)) := by rw [hH3]; exact Bz (OVal.self _ _ _)
    have h2c : An H3 2 = some (⟨v2, false, 31, 2, [.agg [.Aj, .Aj]]⟩ : Box) := (o3 2 (by omega)).trans (by simp [An, h2b])
    have h3c : An H3 3 = some (⟨v3, false, 31, 2, [.agg [.Aj, .Aj]]⟩ : Box) := (o3 3 (by omega)).trans (by simp [An, h3b])
    have l3' := l3
    rw [BP, Ap] at l3'
    have r0 := Aq l3'.1
    have r1 := Aq l3'.2
    clear o1 o2 o3 l1 l2 b0 b1 hH hH2 hH3 RW
    simp +contextual -dsimp (maxSteps := 2000000) only [↓SD, SU, simprocAttr, AA, h2c, h3c, r0, r1, AQ, hlt, false_and]
    refine Af.post (oh nm v4 (⟨p.types, L⟩ : Program)) ?_
    simp +contextual -dsimp (maxSteps := 2000000) only [↓SD, SU, simprocAttr, r0, r1, AQ, false_and]
    exact ⟨KC (KC l3 (by omega)) (by omega), v4, by rw [AA], rfl⟩
  ·intro v3
   refine As [] G (by simp +contextual -dsimp only [↓SD, SU, simprocAttr]) ?_
   rintro r hp' ⟨vs, rfl, rfl⟩ H hH
   rw [Bs] at hH
   have o1 := NI hgg hH
   have l1 : Ax H (oh g vs T) := by rw [hH]; exact Bz (OVal.self _ _ _)
   have h2a : An H 2 = some (⟨v2, false, 31, 2, [.agg [.Aj, .Aj]]⟩ : Box) := (o1 2 (by omega)).trans (by simp [An])
   have h3a : An H 3 = some (⟨v3, false, 31, 2, [.agg [.Aj, .Aj]]⟩ : Box) := (o1 3 (by omega)).trans (by simp [An])
   obtain ⟨es0, b0⟩ := Ca l1
   have RW := RW vs
   rw [AD] at RW
   simp +contextual -dsimp (maxSteps := 2000000) only [↓SD, SU, simprocAttr, AD, b0, hge2, false_and]
   refine As (on g T) RW (Dd l1) ?_
   rintro r hp2 ⟨v1, rfl, rfl⟩ H2 hH2
   have o2 := MK hgg hH2
   have l2 := Cb hH2
   have h2b : An H2 2 = some (⟨v2, false, 31, 2, [.agg [.Aj, .Aj]]⟩ : Box) := (o2 2 (by omega)).trans (by simp [An, h2a])
   have h3b : An H2 3 = some (⟨v3, false, 31, 2, [.agg [.Aj, .Aj]]⟩ : Box) := (o2 3 (by omega)).trans (by simp [An, h3a])
   obtain ⟨es1, b1⟩ := Ca l2
   simp +contextual -dsimp (maxSteps := 2000000) only [↓SD, SU, simprocAttr, AD, b1, hge2, false_and]
   refine Dp (on g T') PO (Aw (by simp +contextual -dsimp only [↓SD, SU, simprocAttr]) (Aw (EZ (AD g v1 T').symm l2) rfl)) ?_
   rintro r hp3 ⟨v4, rfl, rfl⟩
   refine ⟨⟨GA _ _ _, Fh _ _ _⟩, ?_⟩
   intro H3 hH3
   have o3 := FT hH3
   have l3 : Ax H3 (oh nm v4 (⟨p.types, L⟩ : Program)) := by rw [hH3]; exact Bz (OVal.self _ _ _)
   have h2c : An H3 2 = some (⟨v2, false, 31, 2, [.agg [.Aj, .Aj]]⟩ : Box) := (o3 2 (by omega)).trans (by simp [An, h2b])
   have h3c : An H3 3 = some (⟨v3, false, 31, 2, [.agg [.Aj, .Aj]]⟩ : Box) := (o3 3 (by omega)).trans (by simp [An, h3b])
   have l3' := l3
   rw [BP, Ap] at l3'
   have r0 := Aq l3'.1
   have r1 := Aq l3'.2
   clear o1 o2 o3 l1 l2 b0 b1 hH hH2 hH3 RW
   simp +contextual -dsimp (maxSteps := 2000000) only [↓SD, SU, simprocAttr, AA, h2c, h3c, r0, r1, AQ, hlt, false_and]
   refine Af.post (oh nm v4 (⟨p.types, L⟩ : Program)) ?_
   simp +contextual -dsimp (maxSteps := 2000000) only [↓SD, SU, simprocAttr, r0, r1, AQ, false_and]
   exact ⟨KC (KC l3 (by omega)) (by omega), v4, by rw [AA], rfl⟩
end Go.Proofs.YtppjinmlfcokaaaGreat
