/-
 Chosen OF THE REFERENCE, by its abstract text. Conditions: none.
-/
import Derived.Test.YtppjinmlfcokaaaGreatJChoW
import Derived.Test.YtppjinmlfcokaaaGreatJJ42
import Derived.Test.YtppjinmlfcokaaaGreatJJ40
import Derived.Test.YtppjinmlfcokaaaGreatJJ31
import Derived.Test.YtppjinmlfcokaaaGreatProg
import Derived.Test.YtppjinmlfcokaaaGreatJAvDraw
import Derived.Test.YtppjinmlfcokaaaGreatJJ07
import Derived.Test.YtppjinmlfcokaaaGreatJGProg
import Derived.Test.YtppjinmlfcokaaaGreatJJ28
import Derived.Test.YtppjinmlfcokaaaGreatJJ32
set_option linter.unusedVariables false
set_option linter.unusedSimpArgs false
set_option maxRecDepth 100000
namespace Go.Proofs.YtppjinmlfcokaaaGreat
open Go.RowKit Go.Proofs.YtppjinmlfcokaaaGreat.Av Go.Proofs.YtppjinmlfcokaaaGreat.Ml
open Go.Proofs.YtppjinmlfcokaaaGreat.Av.AVal (av)

theorem X1 (q : Pat) (a : Node) (hne : q.nodes ≠ []) (hx : Ac.bulk q ≤ 4294967296) : Ak Tryz.prog 86 [av q, av a] (.bool (Km q a)) := by
 obtain ⟨l⟩ := q
 obtain ⟨x, r, rfl⟩ := List.exists_cons_of_ne_nil hne
 have hxl : x.kids.length ≤ 4294967296 := by
  have b0 := AG (l := x :: r) (List.mem_cons_self)
  have b1 : Ac.bulk x = Ac.bulk x.kind + Ac.bulk x.n + Ac.bulk x.s + Ac.bulk x.kids + 1 := rfl
  have b2 := Ag x.kids
  have b3 : Ac.bulk (⟨x :: r⟩ : Pat) = Ac.bulk (x :: r) + 1 := rfl
  omega
 show Ak Tryz.prog 86 [av (⟨x :: r⟩ : Pat), av a] (.bool (Ot x a))
 have hl0 : 0 < (x :: r).length := by simp
 have hl1 : (0 : Int) < ((x :: r).length : Int) := by omega
 have e0 := getD_map av (x :: r) 0 .top hl0
 rw [List.getElem_cons_zero] at e0
 refine JY.F rfl (by simp; exact ⟨AVal.clean _, AVal.clean _⟩) (Ae.bool _) ?_
 rw [Cc]
 dsimp only
 generalize x :: r = l at *
 simp +contextual -dsimp (maxSteps := 2000000) only [↓SD, SU, simprocAttr, JY, Ay, A3, Aa, e0, hl0, hl1]
 have hs : (a.s = x.s) = (x.s = a.s) := propext eq_comm
 have hn : (a.n = x.n) = (x.n = a.n) := propext eq_comm
 clear e0 hl0 hl1 hx hne
 (repeat' (first | intro _ | refine And.intro ?_ ?_))
 all_goals first | omega | (simp [Ot, hs, hn, *]; done) | (simp [Ot, hs, hn, *]; omega) | trace_state
theorem Abp (k pos : Int) (s : ByteArray) (ks : List Sub) : Ak Tryz.prog 87 [.int .i64 k, .int .i64 pos, .str s, .sl (ks.map av)] (.agg [.int .i64 k, .int .i64 pos, .int .i64 0, .str s, .sl [], .sl [], .sl (ks.map av)]) := by
 refine DK (r := .agg [.int .i64 k, .int .i64 pos, .int .i64 0, .str s, .Aj, .Aj, .sl (ks.map av)]) (FX.F rfl (by simp; first | exact ⟨Bo _, Bo _, Ae.str _, Ao _⟩ | exact Ao _) (Ae.agg (by simp; exact ⟨Bo _, Bo _, Bo _, Ae.str _, Ae.Aj, Ao _⟩)) ?_) (fun S w v h => by
  have h1 := Av.VR.Mg (off := 4) (y := .sl []) h rfl (fun x u hx hu => by cases hx; cases hu; exact .sl0 none 0 (Nat.zero_le _))
  exact Av.VR.Mg (off := 5) (y := .sl []) h1 rfl (fun x u hx hu => by cases hx; cases hu; exact .sl0 none 0 (Nat.zero_le _)))
 simp +contextual -dsimp (maxSteps := 2000000) only [↓SD, SU, simprocAttr, FX, AK]
set_option maxHeartbeats 4000000 in
theorem TL : ∀ t : Tr, t.rk → t.size ≤ 600 → Ak Tryz.prog 43 [av (Sub.mk t)] (av (Sub.mk (Bh AR t))) := by
 refine Tr.ind fun n ks ih hrk hsz => ?_
 refine Ia.F rfl (by simp; exact AVal.clean _) (AVal.clean _) ?_
 rw [Tr.rk] at hrk
 rw [Tr.size] at hsz
 have hkl := CD ks
 have hkm : ((ks.map Sub.mk).map (av : Sub → AV)).length = ks.length := by simp
 have hall := fun k hk => Lj (R := AR) (fun t h => Gy h) k (Cl.1 hrk.2 k hk)
 simp +contextual -dsimp (maxSteps := 2000000) only [↓SD, SU, simprocAttr, Ia, Bf, hkm]
 intro v2 v3
 refine DL (X := Nat × Nat) (fun x => ⟨[(1, .obj [.int .i64 n.kind, .int .i64 n.pos, .int .i64 n.n, .str n.s, .sl (n.kids.map av), .sl (n.Ai.map av), .sl ((ks.map Sub.mk).map av)]), (2, .ptr 2 v2 0 0), (3, .ptr 3 v3 0 0), (13, .int .i64 ks.length), (14, .int .i64 x.1)], [(2, ⟨v2, false, 52, 7, [.agg [.int .i64 0, .int .i64 0, .int .i64 0, .str (bs []), .Aj, .Aj, .Aj]]⟩), (3, ⟨v3, false, 52, 7, [.agg [.int .i64 n.kind, .int .i64 n.pos, .int .i64 n.n, .str n.s, .sl (n.kids.map av), .sl (n.Ai.map av), .row 26 x.2 x.1]]⟩), (26, ⟨x.2, false, 52, 7, (((ks.take x.1).map (Bh AR)).map Sub.mk).map av⟩)]⟩) (fun x => x.1 ≤ ks.length) (fun x => ks.length - x.1) ?_ ?_
 ·refine Af.FA 3 0 6 26 52 7 rfl rfl Nat.zero_lt_one rfl (by decide) fun z => ?_
  exact Af.le ⟨(0, z), Nat.zero_le _, rfl⟩ (by simp +contextual -dsimp only [↓SD, SU, simprocAttr]) (by simp +contextual -dsimp only [↓SD, SU, simprocAttr, List.take_zero, List.map_nil])
 rintro ⟨j, z⟩ hj
 dsimp only at hj ⊢
 by_cases hlt : j < ks.length
 ·have hlt3 : j < (ks.map Sub.mk).length := by rw [List.length_map]; exact hlt
  have e1 := getD_map av (ks.map Sub.mk) j .top hlt3
  rw [List.getElem_map] at e1
  have hm := List.getElem_mem hlt
  have hkr := Cl.1 hrk.2 _ hm
  have hks := Cr hm
  have CR := ih ks[j] hm hkr (by omega)
  have hS : (((ks.take (j + 1)).map (Bh AR)).map Sub.mk).map (av : Sub → AV) = (((ks.take j).map (Bh AR)).map Sub.mk).map av ++ [av (Sub.mk (Bh AR ks[j]))] := by
   rw [List.take_succ_eq_append_getElem hlt, List.map_append, List.map_append, List.map_append]; rfl
  have hSl : ((((ks.take j).map (Bh AR)).map Sub.mk).map (av : Sub → AV)).length = j := by simp; omega
  generalize (((ks.take j).map (Bh AR)).map Sub.mk).map (av : Sub → AV) = SS at *
  generalize Bh AR ks[j] = t' at *
  generalize ks[j] = t at *
  have hSt : List.take j SS = SS := List.take_of_length_le (by omega)
  simp +contextual -dsimp (maxSteps := 2000000) only [↓SD, SU, simprocAttr, hlt, hkm, e1, Bi, Bt, Bl, AP, BN]
  refine Ab _ CR ?_
  simp +contextual -dsimp (maxSteps := 2000000) only [↓SD, SU, simprocAttr, Bi, Bt, Bl, AP, BN, GQ, hSl, hSt]
  refine ⟨⟨by omega, by unfold maxLen; omega⟩, fun z' => ⟨by omega, Af.le ⟨(j + 1, z'), ⟨hlt, (by first | omega | (simp only; omega))⟩, rfl⟩ (by simp +contextual -dsimp only [↓SD, SU, simprocAttr, Int.natCast_add]) (by simp +contextual -dsimp only [↓SD, SU, simprocAttr, hS])⟩⟩
 ·obtain rfl : j = ks.length := by omega
  rw [List.take_length]
  have hSl : (((ks.map (Bh AR)).map Sub.mk).map (av : Sub → AV)).length = ks.length := by simp
  have hSt : List.take ks.length (((ks.map (Bh AR)).map Sub.mk).map (av : Sub → AV)) = ((ks.map (Bh AR)).map Sub.mk).map av := List.take_of_length_le (by omega)
  have hSm : ∀ hp, (((ks.map (Bh AR)).map Sub.mk).map (av : Sub → AV)).map (AV.pur hp) = ((ks.map (Bh AR)).map Sub.mk).map av := fun hp => AK _ hp
  rw [Mx]
  have hll : (ks.map (Bh AR)).length = ks.length := List.length_map _
  have hall2 : ∀ k ∈ ks.map (Bh AR), k.rk ∧ k.size ≤ 600 := fun k hk => by
   obtain ⟨q, hq, rfl⟩ := List.mem_map.1 hk
   have h1 := hall q hq
   have h2 := Cr hq
   exact ⟨h1.1, by omega⟩
  simp +contextual -dsimp (maxSteps := 2000000) only [↓SD, SU, simprocAttr, Nat.lt_irrefl]
  generalize ks.map (Bh AR) = L at *
  refine Eh (Af.frz 26 (Af.U1 3 (b := ⟨v3, false, 52, 7, [.agg [.int .i64 n.kind, .int .i64 n.pos, .int .i64 n.n, .str n.s, .sl (n.kids.map av), .sl (n.Ai.map av), .row 26 z ks.length]]⟩) rfl (Af.here ?_)))
  by_cases h13 : n.kind = 13
  ·have E13 := eq_true h13
   have hl := hrk.1.2.2.1 h13
   have hL0 : 0 < L.length := by omega
   have hL1 : (0 : Int) < (ks.length : Int) := by omega
   have eK : ∀ i (h : i < L.length), ((L.map Sub.mk).map (av : Sub → AV)).getD i .top = av (Sub.mk L[i]) := fun i h => by
    have h3 : i < (L.map Sub.mk).length := by rw [List.length_map]; exact h
    have e1 := getD_map av (L.map Sub.mk) i .top h3
    rwa [List.getElem_map] at e1
   have eK0 := eK 0 hL0
   have hgk : ∀ i (h : i < L.length), L.getD i (.mk default []) = L[i] := fun i h => by simp [List.getD_eq_getElem?_getD, h]
   have ha := hall2 _ (List.getElem_mem hL0)
   obtain ⟨m, js, hmj⟩ : ∃ m js, L[0] = .mk m js := by
    cases h : L[0] with
    | mk m js => exact ⟨m, js, rfl⟩
   have hjl : js.length ≤ 600 := by have h1 := ha.2; rw [hmj, Tr.size] at h1; have := CD js; omega
   have CB := P1 m js (by omega)
   have CA := Ol m js.length (by omega)
   have hpl : Ew (L.getD 0 (.mk default [])) = C8 m js.length := by rw [hgk 0 hL0, hmj]; rfl
   have hhd : (L.getD 0 (.mk default [])).hd = m := by rw [hgk 0 hL0, hmj]; rfl
   rw [← hmj] at CB
   have hB1 : (Lb m js.length).kind = m.kind := rfl
   have hBh : ∀ q, Km q (Lb m js.length) = Km q m := fun q => rfl
   generalize Lb m js.length = B at *
   rw [AR, hpl, hhd]
   rw [Ay] at CB
   have CA' := CA
   rw [Ay] at CA'
   have hm1 : ∀ hp, (B.kids.map (av : Int → AV)).map (AV.pur hp) = B.kids.map av := fun hp => AK _ hp
   have hm2 : ∀ hp, (B.Ai.map (av : Pat → AV)).map (AV.pur hp) = B.Ai.map av := fun hp => AK _ hp
   simp +contextual -dsimp (maxSteps := 2000000) only [↓SD, SU, simprocAttr, hSl, hSt, hSm, E13, Nat.le_refl, eK0, hL1, Bi, Bt, Bl, AP, BN]
   refine Ab _ CB ?_
   simp +contextual -dsimp (maxSteps := 2000000) only [↓SD, SU, simprocAttr, hm1, hm2]
   intro v5
   refine Ab _ CA' ?_
   cases hp : C8 m js.length with
   | false =>
    rw [if_neg (fun h => by cases h.2.1)]
    simp +contextual -dsimp (maxSteps := 2000000) only [↓SD, SU, simprocAttr, hSl, hSt, hSm, Nat.le_refl, Bi, Bt, Bl, AP, BN]
    rw [Bf]
   | true =>
    by_cases h2 : m.kind = 2
    ·have E2 := eq_true h2
     rw [if_neg (fun h => h.2.2 h2)]
     simp +contextual -dsimp (maxSteps := 2000000) only [↓SD, SU, simprocAttr, hSl, hSt, hSm, hB1, E2, Nat.le_refl, Bi, Bt, Bl, AP, BN]
     rw [Bf]
    ·have E2 := eq_false h2
     rw [if_pos ⟨h13, rfl, h2⟩]
     simp +contextual -dsimp (maxSteps := 2000000) only [↓SD, SU, simprocAttr, hSl, hSt, hSm, hB1, E2, Nat.le_refl, Bi, Bt, Bl, AP, BN]
     have hkx : n.Ai.length ≤ 4294967296 := by
      have b4 : Ac.bulk n = Ac.bulk n.kind + Ac.bulk n.pos + Ac.bulk n.n + Ac.bulk n.s + Ac.bulk n.kids + Ac.bulk n.Ai + 1 := rfl
      have b5 := hrk.1.2.2.2.2.2.2
      have b6 := Ag n.Ai
      omega
     refine Am (X := Nat) (fun j => ⟨[(1, .obj [.int .i64 n.kind, .int .i64 n.pos, .int .i64 n.n, .str n.s, .sl (n.kids.map av), .sl (n.Ai.map av), .sl ((ks.map Sub.mk).map av)]), (2, .ptr 2 v2 0 0), (3, .ptr 3 v3 0 0), (5, .ptr 5 v5 0 0), (50, .sl (n.Ai.map av)), (51, .int .i64 n.Ai.length), (52, .int .i64 j)], [(2, ⟨v2, false, 52, 7, [.agg [.int .i64 0, .int .i64 0, .int .i64 0, .str (bs []), .Aj, .Aj, .Aj]]⟩), (3, ⟨v3, false, 52, 7, [.agg [.int .i64 n.kind, .int .i64 n.pos, .int .i64 n.n, .str n.s, .sl (n.kids.map av), .sl (n.Ai.map av), .sl ((L.map Sub.mk).map av)]]⟩), (5, ⟨v5, false, 49, 6, [.agg [.int .i64 m.kind, .int .i64 B.pos, .int .i64 B.n, .str B.s, .sl (B.kids.map av), .sl (B.Ai.map av)]]⟩)]⟩) (fun j => j ≤ n.Ai.length ∧ ∀ k (hk : k < n.Ai.length), k < j → Km n.Ai[k] m = false) (fun j => n.Ai.length - j) 0 ⟨Nat.zero_le _, fun k hk h => by omega⟩ (by simp +contextual -dsimp only [↓SD, SU, simprocAttr, Aa]) (by simp +contextual -dsimp only [↓SD, SU, simprocAttr]) ?_
     rintro j ⟨hj, hjf⟩
     try dsimp only at hj hjf ⊢
     by_cases hlt : j < n.Ai.length
     ·have eQ := getD_map av n.Ai j .top hlt
      have hne := hrk.1.2.2.2.2.1 _ (List.getElem_mem hlt)
      have hbj := AG (List.getElem_mem hlt)
      have hbq : Ac.bulk n.Ai[j] ≤ 4294967296 := by
       have b4 : Ac.bulk n = Ac.bulk n.kind + Ac.bulk n.pos + Ac.bulk n.n + Ac.bulk n.s + Ac.bulk n.kids + Ac.bulk n.Ai + 1 := rfl
       have b5 := hrk.1.2.2.2.2.2.2
       omega
      have CH := X1 n.Ai[j] B hne hbq
      rw [hBh, Ay, hB1] at CH
      obtain ⟨⟨l⟩, hq⟩ : ∃ q, q = n.Ai[j] := ⟨_, rfl⟩
      rw [← hq] at eQ hne CH
      rw [Cc] at eQ CH
      dsimp only at hne eQ CH
      have hl2 : 0 < l.length := List.length_pos_iff.2 hne
      have hl3 : (0 : Int) < (l.length : Int) := by omega
      have eX := getD_map av l 0 .top hl2
      have hgx : l.getD 0 default = l[0] := by simp [List.getD_eq_getElem?_getD, hl2]
      generalize hx : l[0] = x at *
      rw [A3] at eX
      have hm3 : ∀ hp, (l.map (av : Bu → AV)).map (AV.pur hp) = l.map av := fun hp => AK _ hp
      simp +contextual -dsimp (maxSteps := 2000000) only [↓SD, SU, simprocAttr, Aa, hlt, eQ, hm1, hm2, hm3]
      intro v7
      refine Ab _ CH ?_
      cases hh : Km ⟨l⟩ m with
      | false =>
       simp +contextual -dsimp (maxSteps := 2000000) only [↓SD, SU, simprocAttr]
       refine ⟨by omega, Af.le ⟨j + 1, ⟨⟨hlt, fun k hk hkj => ?_⟩, (by first | omega | (simp only; omega))⟩, rfl⟩ (by simp +contextual -dsimp only [↓SD, SU, simprocAttr, Int.natCast_add]) (by simp +contextual -dsimp only [↓SD, SU, simprocAttr])⟩
       rcases Nat.lt_or_ge k j with h | h
       ·exact hjf k hk h
       ·obtain rfl : k = j := by omega
        rw [← hq]; exact hh
      | true =>
       have hgp : n.Ai.getD j default = ⟨l⟩ := by rw [hq]; simp [List.getD_eq_getElem?_getD, hlt]
       rw [K6 hlt (fun k hk => hjf k (by omega) hk) (by rw [← hq]; exact hh)]
       dsimp only
       rw [hgp, hgx]
       have hj4 : j + 1 < L.length := by omega
       have hj0 : -9223372036854775808 ≤ (j : Int) + 1 := by omega
       have hj1 : (j : Int) + 1 ≤ 9223372036854775807 := by omega
       have hj2 : 0 ≤ (j : Int) + 1 := by omega
       have hj3 : (j : Int) + 1 < (ks.length : Int) := by omega
       have hjn : ((j : Int) + 1).toNat = j + 1 := by omega
       have eK1 := eK (j + 1) hj4
       rw [hgk (j + 1) hj4, hgk 0 hL0]
       by_cases hx2 : x.kind = 2
       ·have E2 := eq_true hx2
        rw [if_pos hx2]
        simp +contextual -dsimp (maxSteps := 2000000) only [↓SD, SU, simprocAttr, Aa, eX, hl2, hl3, E2, hSl, hSt, hSm, eK0, eK1, hL1, hj0, hj1, hj2, hj3, hj4, hjn, Bi, Bt, Bl, AP, BN, GQ]
        refine Ab _ (Abp 7 n.pos x.s [Sub.mk L[0], Sub.mk L[j + 1]]) ?_
        simp +contextual -dsimp (maxSteps := 2000000) only [↓SD, SU, simprocAttr]
        rw [Bf]
        rfl
       ·have E2 := eq_false hx2
        rw [if_neg hx2]
        obtain ⟨rn, rk, hmk⟩ : ∃ rn rk, L[j + 1] = .mk rn rk := by
         cases h : L[j + 1] with
         | mk a b => exact ⟨a, b, rfl⟩
        rw [hmk] at eK1 ⊢
        rw [Bf] at eK1 ⊢
        simp +contextual -dsimp (maxSteps := 2000000) only [↓SD, SU, simprocAttr, Aa, eX, hl2, hl3, E2, hSl, hSt, hSm, eK0, eK1, hL1, hj0, hj1, hj2, hj3, hj4, hjn, Bi, Bt, Bl, AP, BN]
     ·obtain rfl : j = n.Ai.length := by omega
      rw [K7 (fun k hk => hjf k hk hk)]
      simp +contextual -dsimp (maxSteps := 2000000) only [↓SD, SU, simprocAttr, Nat.lt_irrefl, hSl, hSt, hSm]
      rw [Bf]
  ·have E13 := eq_false h13
   have hcho : AR (.mk n L) = .mk n L := by rw [AR, if_neg (fun h => h13 h.1)]
   rw [hcho]
   simp +contextual -dsimp (maxSteps := 2000000) only [↓SD, SU, simprocAttr, hSl, hSt, hSm, E13, Nat.le_refl]
   rw [Bf]
theorem LB (p : Program) (hx : Ac.bulk p ≤ 4294967296) : Ak Tryz.prog 18 [av p] (av (Dh AR p)) := by
 obtain ⟨q1, q2, q3, q4⟩ := Ck hx
 have C := EG p hx
 rw [Ad] at C
 cases hb : Db p with
 | false =>
  rw [hb] at C
  have e : Dh AR p = ⟨[], []⟩ := by rw [Dh, if_neg (by rw [hb]; simp)]
  rw [e]
  refine DK (r := .agg [.Aj, .Aj]) (F1.F rfl (by simp; exact AVal.clean p) (Ae.agg (by simp; exact Ae.Aj)) ?_) (fun S w v h => TB h)
  simp +contextual -dsimp (maxSteps := 2000000) only [↓SD, SU, simprocAttr, F1, Ad]
  intro v2
  refine Ab _ C ?_
  simp +contextual -dsimp (maxSteps := 2000000) only [↓SD, SU, simprocAttr]
 | true =>
  rw [hb] at C
  obtain ⟨f1, f2, f3, f4, f5⟩ := CJ hx hb
  have hk : ∀ i, i < p.nodes.length → ∀ k ∈ Bp p.nodes i, (i : Int) < k ∧ k < p.nodes.length := fun i hi k hk => DM f3 hi hk
  have G := Lr p hk q2 p.nodes.length 0 (by omega) (by omega)
  rw [show Bx p.nodes p.nodes.length 0 = A2 p.nodes 0 from rfl, Ad] at G
  have hT := LV hx hb
  have hsz := (D5 hx hb).2.2.2.1
  have CS := TL _ hT hsz
  have hR := Lj (R := AR) (fun t h => Gy h) _ hT
  have CP := IB p _ q1 (show (Bh AR (A2 p.nodes 0)).size ≤ 600 by omega)
  have e : Dh AR p = ⟨p.types, BF 0 (Bh AR (A2 p.nodes 0))⟩ := by rw [Dh, if_pos hb]
  rw [e]
  rw [Ad, Ad] at CP
  rw [Ad]
  refine F1.F rfl (by simp; exact AVal.clean p) (AVal.clean (⟨p.types, BF 0 (Bh AR (A2 p.nodes 0))⟩ : Program)) ?_
  clear e hR
  generalize Bh AR (A2 p.nodes 0) = T' at *
  generalize A2 p.nodes 0 = T at *
  generalize BF 0 T' = L at *
  have hlm : ∀ hp, (L.map (av : Node → AV)).map (AV.pur hp) = L.map av := fun hp => AK _ hp
  have htm : ∀ hp, (p.types.map (av : BK → AV)).map (AV.pur hp) = p.types.map av := fun hp => AK _ hp
  simp +contextual -dsimp (maxSteps := 2000000) only [↓SD, SU, simprocAttr, F1, Ad]
  intro v2
  refine Ab _ C ?_
  simp +contextual -dsimp (maxSteps := 2000000) only [↓SD, SU, simprocAttr]
  refine Ab _ G ?_
  simp +contextual -dsimp (maxSteps := 2000000) only [↓SD, SU, simprocAttr, AP]
  refine Ab _ CS ?_
  simp +contextual -dsimp (maxSteps := 2000000) only [↓SD, SU, simprocAttr, AP]
  refine Ab _ CP ?_
  simp +contextual -dsimp (maxSteps := 2000000) only [↓SD, SU, simprocAttr, hlm, htm]
end Go.Proofs.YtppjinmlfcokaaaGreat
set_option linter.unusedVariables false
set_option linter.unusedSimpArgs false
set_option maxRecDepth 100000
namespace Go.Proofs.YtppjinmlfcokaaaGreat
open Go.RowKit Go.Proofs.YtppjinmlfcokaaaGreat.Av Go.Proofs.YtppjinmlfcokaaaGreat.Ml
open Go.Proofs.YtppjinmlfcokaaaGreat.Av.AVal (av)

/-! ### trees with the kids that they have when they are laid -/
mutual
def TU : Nat → Tr → Tr
 | b, .mk n ks => .mk { n with kids := Da (b + 1) ks } (Ox (b + 1) ks)
def Ox : Nat → List Tr → List Tr
 | _, [] => []
 | b, t :: ts => TU b t :: Ox (b + t.size) ts
end
theorem Wk {l : List Node} {g : Nat} : ∀ {ks : List Tr} {b : Nat}, (∀ k ∈ ks, ∀ a, l.length - a ≤ g → (l.drop a).take k.size = BF a k → a + k.size ≤ l.length → Bx l g a = TU a k) → l.length - b ≤ g → (l.drop b).take (Tr.AM ks) = BI b ks → b + Tr.AM ks ≤ l.length → (Da b ks).map (fun k => Bx l g k.toNat) = Ox b ks
 | [], b, _, _, _, _ => by rw [Da, Ox]; rfl
 | t :: ts, b, h, hg, hl, hb => by
  rw [Tr.AM] at hl hb
  rw [BI] at hl
  have hlen : (BF b t).length = t.size := Di t b
  have h1 : (l.drop b).take t.size = BF b t := by
   have e := congrArg (List.take t.size) hl
   rw [List.take_take, Nat.min_eq_left (by omega), List.take_left' hlen] at e
   exact e
  have h2 : (l.drop (b + t.size)).take (Tr.AM ts) = BI (b + t.size) ts := by
   have e := congrArg (List.drop t.size) hl
   rw [List.drop_take, List.drop_drop, List.drop_left' hlen] at e
   rw [show t.size + Tr.AM ts - t.size = Tr.AM ts by omega] at e
   exact e
  rw [Da, Ox, List.map_cons, Wk (fun k hk => h k (by simp [hk])) (by omega) h2 (by omega)]
  congr 1
  exact h t (by simp) _ (by simpa using hg) h1 (by simp; omega)
theorem Ada (l : List Node) : ∀ (t : Tr) (g b : Nat), l.length - b ≤ g → (l.drop b).take t.size = BF b t → b + t.size ≤ l.length → Bx l g b = TU b t := Tr.ind fun n ks ih g b hg hl hb => by
 rw [Tr.size] at hl hb
 rw [BF] at hl
 have hlt : b < l.length := by omega
 rw [List.drop_eq_getElem_cons hlt, List.take_succ_cons] at hl
 obtain ⟨e1, e2⟩ := List.cons.inj hl
 obtain ⟨g, rfl⟩ : ∃ g', g = g' + 1 := ⟨g - 1, by omega⟩
 rw [Bx, TU]
 have e : l.getD b default = l[b] := by simp [List.getD_eq_getElem?_getD, hlt]
 have e3 : Bp l b = Da (b + 1) ks := by rw [Bp, e, e1]
 rw [e3, e, e1, Wk (fun k hk a ha h1 h2 => ih k hk g a ha h1 h2) (by omega) e2 (by omega)]
theorem AbU (t : Tr) : A2 (BF 0 t) 0 = TU 0 t := by
 have h := Di t 0
 exact Ada _ t _ 0 (by omega) (by rw [List.drop_zero, List.take_of_length_le (by omega)]) (by omega)
theorem SE {s : ByteArray} {n : Node} {K : List Int} : ∀ {ks : List Tr}, (∀ k ∈ ks, ∀ b, DW s (TU b k) = DW s k) → ∀ b i, FJ s { n with kids := K } i (Ox b ks) = FJ s n i ks
 | [], _, b, i => by rw [Ox, FJ, FJ]
 | t :: ts, h, b, i => by
  rw [Ox, FJ, FJ, h t (by simp), SE (fun k hk => h k (by simp [hk]))]
  rfl
theorem Adl (s : ByteArray) : ∀ (t : Tr) (b : Nat), DW s (TU b t) = DW s t := Tr.ind fun n ks ih b => by
 rw [TU, DW, DW, SE ih]
theorem ZM : ∀ (ks : List Tr) (b : Nat), ∀ k ∈ Da b ks, (b : Int) ≤ k ∧ k < ((b + Tr.AM ks : Nat) : Int)
 | [], b, k, h => by rw [Da] at h; cases h
 | t :: ts, b, k, h => by
  have ht : 1 ≤ t.size := by cases t; rw [Tr.size]; omega
  rw [Da] at h
  rw [Tr.AM]
  rcases List.mem_cons.1 h with rfl | h
  ·omega
  ·have := ZM ts _ k h; omega
def Vn (l : List Node) (b e : Nat) : Prop := ∀ (i : Nat) (h : i < l.length), ∀ k ∈ (l[i]).kids, ((b + i : Nat) : Int) < k ∧ k < (e : Int)
theorem Acu {l m : List Node} {b e : Nat} (h1 : Vn l b e) (h2 : Vn m (b + l.length) e) : Vn (l ++ m) b e := fun i h k hk => by
 by_cases hi : i < l.length
 ·rw [List.getElem_append_left hi] at hk
  exact h1 i hi k hk
 ·rw [List.getElem_append_right (by omega)] at hk
  have := h2 (i - l.length) (by rw [List.length_append] at h; omega) k hk
  omega
theorem Ad8 {l : List Node} {b e e' : Nat} (h : Vn l b e) (he : e ≤ e') : Vn l b e' := fun i hi k hk => by
 have := h i hi k hk
 omega
theorem Sb : ∀ {ks : List Tr}, (∀ k ∈ ks, ∀ b, Vn (BF b k) b (b + k.size)) → ∀ b, Vn (BI b ks) b (b + Tr.AM ks)
 | [], _, b => fun i h => by rw [BI] at h; exact absurd h (Nat.not_lt_zero _)
 | t :: ts, h, b => by
  rw [BI, Tr.AM]
  refine Acu (Ad8 (h t (by simp) b) (by omega)) ?_
  rw [Di]
  have := Sb (ks := ts) (fun k hk => h k (by simp [hk])) (b + t.size)
  rw [Nat.add_assoc] at this
  exact this
theorem Ac0 : ∀ (t : Tr) (b : Nat), Vn (BF b t) b (b + t.size) := Tr.ind fun n ks ih b => by
 rw [BF, Tr.size]
 intro i h k hk
 cases i with
 | zero =>
  have := ZM ks (b + 1) k hk
  omega
 | succ i =>
  have := Sb ih (b + 1) i (by simpa using h) k hk
  omega
theorem Abj (t : Tr) (i : Nat) (hi : i < (BF 0 t).length) : ∀ k ∈ Bp (BF 0 t) i, (i : Int) < k ∧ k < (BF 0 t).length := fun k hk => by
 have e : (BF 0 t).getD i default = (BF 0 t)[i] := by simp [List.getD_eq_getElem?_getD, hi]
 rw [Bp, e] at hk
 have := Ac0 t 0 i hi k hk
 rw [Di]
 omega
end Go.Proofs.YtppjinmlfcokaaaGreat
set_option linter.unusedVariables false
set_option maxRecDepth 100000
namespace Go.Proofs.YtppjinmlfcokaaaGreat
open Go.Proofs.YtppjinmlfcokaaaGreat.Av

theorem GI : Tryz.prog.follows .mixedOrders = true := by kernel_rfl

def Cu : Ir Tryz.prog 81 [(60,60), (72, 7777)] [] 1 := ⟨_, _, Tryz.func81, GI, by kernel_rfl, Ah [] Tryz.progTables (by conv => lhs; cbv) (by kernel_rfl)⟩
def I4 : Ir Tryz.prog 82 [] [] 1 := ⟨_, _, Tryz.func82, GI, by kernel_rfl, Ah [] Tryz.progTables (by conv => lhs; cbv) (by kernel_rfl)⟩
def J1 : Ir Tryz.prog 42 [(1,1)] [7] 1 := ⟨_, _, Tryz.func42, GI, by kernel_rfl, Ah [] Tryz.progTables (by conv => lhs; cbv) (by kernel_rfl)⟩
def Hd : Ir Tryz.prog 17 [(37,7774)] [14] 1 := ⟨_, _, Tryz.func17, GI, by kernel_rfl, Ah [] Tryz.progTables (by conv => lhs; cbv) (by kernel_rfl)⟩
end Go.Proofs.YtppjinmlfcokaaaGreat
set_option linter.unusedVariables false
namespace Go.Proofs.YtppjinmlfcokaaaGreat
open Go.RowKit Go.Proofs.YtppjinmlfcokaaaGreat.Av
open Go.Proofs.YtppjinmlfcokaaaGreat.Av.AVal (av)

theorem Af.Afe {fr : List (Nat × AV)} {T : St → Prop} : ∀ (ks : List Nat) {hp : Hp}, Af ⟨fr, B3 ks hp⟩ T → Af ⟨fr, hp⟩ T
 | [], _, h => h
 | k :: r, _, h => Af.frz k (Af.Afe r h)
end Go.Proofs.YtppjinmlfcokaaaGreat
set_option linter.unusedVariables false
set_option linter.unusedSimpArgs false
namespace Go.Proofs.YtppjinmlfcokaaaGreat
open Go.RowKit Go.Proofs.YtppjinmlfcokaaaGreat.Av
open Go.Proofs.YtppjinmlfcokaaaGreat.Av.AVal (av)

mutual
def nz : AV → AV
 | .agg cs => .agg (nzL cs)
 | .tup cs => .tup (nzL cs)
 | .sl es => .sl (nzL es)
 | .Aj => .sl []
 | x => x
def nzL : List AV → List AV
 | [] => []
 | x :: l => nz x :: nzL l
end
theorem Lq : ∀ l : List AV, nzL l = l.map nz
 | [] => by rw [nzL]; rfl
 | x :: l => by rw [nzL, Lq l]; rfl
theorem AcF {x : AV} (h : x.one = true) : (nz x).one = true := by cases x <;> first | (simp [AV.one] at h; done) | (simp only [nz, AV.one])
theorem Vx (x : AV) : (nz x).cells = x.cells.map nz := by cases x <;> simp [nz, AV.cells, Lq]
theorem Av.VR.nz {S : Nat → Prop} {w : World} {μ : Mu} {v : Value} {x : AV} (h : VR S w μ v x) : VR S w μ v (Go.Proofs.YtppjinmlfcokaaaGreat.nz x) := by
 induction h with
 | agg cs xs hl h1 h ih =>
  rw [Go.Proofs.YtppjinmlfcokaaaGreat.nz, Lq]
  refine .agg cs _ (by simpa using hl) (fun y hy => ?_) (fun i v y p q => ?_)
  ·obtain ⟨x, hx, rfl⟩ := List.mem_map.1 hy; exact AcF (h1 x hx)
  ·simp only [List.getElem?_map, Option.map_eq_some_iff] at q
   obtain ⟨x, hx, rfl⟩ := q
   exact ih i v x p hx
 | tup cs xs hl h ih =>
  rw [Go.Proofs.YtppjinmlfcokaaaGreat.nz, Lq]
  refine .tup cs _ (by simpa using hl) (fun i v y p q => ?_)
  simp only [List.getElem?_map, Option.map_eq_some_iff] at q
  obtain ⟨x, hx, rfl⟩ := q
  exact ih i v x p hx
 | sl b o cap esz vs es hS hl hm hz hc hh ih =>
  rw [Go.Proofs.YtppjinmlfcokaaaGreat.nz, Lq]
  have hln : es.length = (es.map Go.Proofs.YtppjinmlfcokaaaGreat.nz).length := by simp
  rw [hln]
  refine .sl b o cap esz vs _ hS (by simpa using hl) hm (fun e he => ?_) (fun i j hi => hc i j (by simpa using hi)) (fun i j e x p q => ?_)
  ·obtain ⟨e', he', rfl⟩ := List.mem_map.1 he
   rw [Vx]
   refine ⟨by rw [List.length_map]; exact (hz e' he').1, fun y hy => ?_⟩
   obtain ⟨x, hx, rfl⟩ := List.mem_map.1 hy
   exact AcF ((hz e' he').2 x hx)
  ·simp only [List.getElem?_map, Option.map_eq_some_iff] at p
   obtain ⟨e', he', rfl⟩ := p
   rw [Vx, List.getElem?_map, Option.map_eq_some_iff] at q
   obtain ⟨x', hx', rfl⟩ := q
   exact ih i j e' x' he' hx'
 | Aj => rw [Go.Proofs.YtppjinmlfcokaaaGreat.nz]; exact .sl0 none 0 (Nat.zero_le _)
 | bool b => exact .bool b
 | int k n h1 h2 => exact .int k n h1 h2
 | str s h => exact .str s h
 | Dy => exact .Dy
 | obj b o vs xs hS h1 hc h ih => exact .obj b o vs xs hS h1 hc h
 | sl0 a cap hc => exact .sl0 a cap hc
 | fn f cs xs hl h ih => exact .fn f cs xs hl h
 | IA => exact .IA
 | ptr k v i off b cap esz h => exact .ptr k v i off b cap esz h
 | row k v n b cap esz h hn hm => exact .row k v n b cap esz h hn hm
 | Iz k v cap esz h => exact .Iz k v cap esz h
 | top v => exact .top v
def Ad3 (hp : Hp) : AV → AV
 | .tup cs => .tup (cs.map (AV.pur hp))
 | x => x.pur hp
theorem Av.VR.Ad3 {E : Env} {S : Nat → Prop} {w : World} {μ : Mu} {hp : Hp} (hw : WI E S w μ hp) {v : Value} {x : AV} (h : VR S w μ v x) : VR S w μ v (Go.Proofs.YtppjinmlfcokaaaGreat.Ad3 hp x) := by
 cases x with
 | tup xs =>
  cases h with | tup cs _ hl hh =>
  refine .tup cs _ (by simpa using hl) (fun i v y p q => ?_)
  simp only [List.getElem?_map, Option.map_eq_some_iff] at q
  obtain ⟨x, hx, rfl⟩ := q
  exact (hh i v x p hx).pur hw
 | _ => exact h.pur hw
theorem WH {P : Go.Program} {f : FuncId} {args : List AV} {hp : Hp} {Post Post2 : AV → Hp → Prop} (h : AU P f args hp Post) (hg : ∀ r hp', Post r hp' → ∃ ks hp2, Ax (B3 ks hp') hp2 ∧ Post2 (nz (Ad3 (B3 ks hp') r)) hp2) : AU P f args hp Post2 := by
 obtain ⟨hc, h⟩ := h
 refine ⟨hc, fun S w μ vs hW hv => (h S w μ vs hW hv).mono fun e w' ⟨v, r, hp', S', μ', he, hpst, hvr, hw'⟩ => ?_⟩
 obtain ⟨ks, hp2, h1, h2⟩ := hg _ _ hpst
 obtain ⟨S1, w1, s1⟩ := WI.B3 (S := S') ks hw'
 exact ⟨v, _, hp2, S1, μ', he, h2, ((hvr.mono s1 (BZ.refl _ _) (Mu.le.refl _)).Ad3 w1).nz, w1.drop (Ng h1)⟩
end Go.Proofs.YtppjinmlfcokaaaGreat
set_option linter.unusedVariables false
set_option linter.unusedSimpArgs false
namespace Go.Proofs.YtppjinmlfcokaaaGreat
open Go.RowKit Go.Proofs.YtppjinmlfcokaaaGreat.Av Go.Proofs.YtppjinmlfcokaaaGreat.Ml
open Go.Proofs.YtppjinmlfcokaaaGreat.Av.AVal (av)

theorem Hb {α : Type} [AVal α] (h : ∀ x : α, nz (av x) = av x) (l : List α) : nz (.sl (l.map av)) = .sl (l.map av) := by
 rw [nz, Lq, List.map_map]
 congr 1
 exact List.map_congr_left fun x _ => h x
theorem AcG (x : Int) : nz (av x) = av x := eqq rfl
theorem AcI (x : Bu) : nz (av x) = av x := by
 show nz (.agg [_, _, _, .sl (x.kids.map av)]) = _
 rw [nz, nzL, nzL, nzL, nzL, nzL, Hb AcG]; rfl
theorem Ae4 (x : Pat) : nz (av x) = av x := by
 show nz (.agg [.sl (x.nodes.map av)]) = _
 rw [nz, nzL, nzL, Hb AcI]; rfl
theorem Abd (x : Bb) : nz (av x) = av x := eqq rfl
theorem Ae5 (x : Con) : nz (av x) = av x := by
 show nz (.agg [_, _, .sl (x.arg.items.map av)]) = _
 rw [nz, nzL, nzL, nzL, nzL, Hb Abd]; rfl
theorem ZA (x : Node) : nz (av x) = av x := by
 show nz (.agg [_, _, _, _, .sl (x.kids.map av), .sl (x.Ai.map av)]) = _
 rw [nz, nzL, nzL, nzL, nzL, nzL, nzL, nzL, Hb AcG, Hb Ae4]; rfl
theorem AcH (x : BK) : nz (av x) = av x := by
 show nz (.agg [_, _, .sl (x.cons.map av)]) = _
 rw [nz, nzL, nzL, nzL, nzL, Hb Ae5]; rfl
theorem XX (x : Program) : nz (av x) = av x := by
 show nz (.agg [.sl (x.types.map av), .sl (x.nodes.map av)]) = _
 rw [nz, nzL, nzL, nzL, Hb AcH, Hb ZA]; rfl
theorem Yt {P : Go.Program} {f : FuncId} {args : List AV} {r : AV} (h : Ak P f (args.map nz) r) (hp : ∀ x ∈ args, Ae x) : Ak P f args r :=
 ⟨h.1, hp, fun S w vs h1 h2 => h.2.2 S w vs h1 ⟨by rw [h2.1, List.length_map], fun i v x p q => by
  rw [List.getElem?_map, Option.map_eq_some_iff] at q
  obtain ⟨y, hy, rfl⟩ := q
  exact (h2.2 i v y p hy).nz⟩⟩
end Go.Proofs.YtppjinmlfcokaaaGreat
set_option linter.unusedVariables false
set_option maxRecDepth 100000
set_option linter.unusedVariables false
set_option linter.unusedSimpArgs false
set_option maxRecDepth 100000
set_option linter.unusedVariables false
set_option linter.unusedSimpArgs false
set_option maxRecDepth 100000
