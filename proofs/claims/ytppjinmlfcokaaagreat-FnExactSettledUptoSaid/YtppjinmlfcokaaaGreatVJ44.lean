/-
 Chosen OF THE REFERENCE, by its abstract text. Conditions: none.
-/
import Derived.Test.YtppjinmlfcokaaaGreatVJ36
import Derived.Test.YtppjinmlfcokaaaGreatVJ43
import Derived.Test.YtppjinmlfcokaaaGreatVJ41
import Derived.Test.YtppjinmlfcokaaaGreatProg
import Derived.Test.YtppjinmlfcokaaaGreatVAvDraw
import Derived.Test.YtppjinmlfcokaaaGreatVJ07
import Derived.Test.YtppjinmlfcokaaaGreatVGProg
import Derived.Test.YtppjinmlfcokaaaGreatVJ24
import Derived.Test.YtppjinmlfcokaaaGreatVJ17
import Derived.Test.YtppjinmlfcokaaaGreatVJ25
set_option linter.unusedVariables false
set_option linter.unusedSimpArgs false
set_option maxRecDepth 100000
namespace Go.Proofs.YtppjinmlfcokaaaGreat
open Go.RowKit Go.Proofs.YtppjinmlfcokaaaGreat.Av Go.Proofs.YtppjinmlfcokaaaGreat.Ml
open Go.Proofs.YtppjinmlfcokaaaGreat.Av.AVal (av)

theorem Yc (q : Pat) (a : Node) (hne : q.nodes ≠ []) (hx : Ac.bulk q ≤ 4294967296) : Ah Tryz.prog 86 [av q, av a] (.bool (JZ q a)) := by
 obtain ⟨l⟩ := q
 obtain ⟨x, r, rfl⟩ := List.exists_cons_of_ne_nil hne
 have hxl : x.kids.length ≤ 4294967296 := by
  have b0 := Au (l := x :: r) (List.mem_cons_self)
  have b1 : Ac.bulk x = Ac.bulk x.kind + Ac.bulk x.n + Ac.bulk x.s + Ac.bulk x.kids + 1 := rfl
  have b2 := Ai x.kids
  have b3 : Ac.bulk (⟨x :: r⟩ : Pat) = Ac.bulk (x :: r) + 1 := rfl
  omega
 show Ah Tryz.prog 86 [av (⟨x :: r⟩ : Pat), av a] (.bool (Ob x a))
 have hl0 : 0 < (x :: r).length := by simp
 have hl1 : (0 : Int) < ((x :: r).length : Int) := by omega
 have e0 := getD_map av (x :: r) 0 .top hl0
 rw [List.getElem_cons_zero] at e0
 refine Jy.F rfl (by simp; exact ⟨AVal.clean _, AVal.clean _⟩) (Ad.bool _) ?_
 rw [B7]
 dsimp only
 generalize x :: r = l at *
 simp +contextual -dsimp (maxSteps := 2000000) only [↓SD, SU, simprocAttr, Jy, As, AU, Ab, e0, hl0, hl1]
 have hs : (a.s = x.s) = (x.s = a.s) := propext eq_comm
 have hn : (a.n = x.n) = (x.n = a.n) := propext eq_comm
 clear e0 hl0 hl1 hx hne
 (repeat' (first | intro _ | refine And.intro ?_ ?_))
 all_goals first | omega | (simp [Ob, hs, hn, *]; done) | (simp [Ob, hs, hn, *]; omega) | trace_state
theorem AbN (k pos : Int) (s : ByteArray) (ks : List Sub) : Ah Tryz.prog 87 [.int .i64 k, .int .i64 pos, .str s, .sl (ks.map av)] (.agg [.int .i64 k, .int .i64 pos, .int .i64 0, .str s, .sl [], .sl [], .sl (ks.map av)]) := by
 refine Eo (r := .agg [.int .i64 k, .int .i64 pos, .int .i64 0, .str s, .An, .An, .sl (ks.map av)]) (FX.F rfl (by simp; first | exact ⟨BB _, BB _, Ad.str _, Ak _⟩ | exact Ak _) (Ad.agg (by simp; exact ⟨BB _, BB _, BB _, Ad.str _, Ad.An, Ak _⟩)) ?_) (fun S w v h => by
  have h1 := Av.VR.LY (off := 4) (y := .sl []) h rfl (fun x u hx hu => by cases hx; cases hu; exact .sl0 none 0 (Nat.zero_le _))
  exact Av.VR.LY (off := 5) (y := .sl []) h1 rfl (fun x u hx hu => by cases hx; cases hu; exact .sl0 none 0 (Nat.zero_le _)))
 simp +contextual -dsimp (maxSteps := 2000000) only [↓SD, SU, simprocAttr, FX, AB]
set_option maxHeartbeats 4000000 in
theorem TJ : ∀ t : Tr, t.rk → t.size ≤ 600 → Ah Tryz.prog 43 [av (Sub.mk t)] (av (Sub.mk (AZ AM t))) := by
 refine Tr.ind fun n ks ih hrk hsz => ?_
 refine Ia.F rfl (by simp; exact AVal.clean _) (AVal.clean _) ?_
 rw [Tr.rk] at hrk
 rw [Tr.size] at hsz
 have hkl := Cy ks
 have hkm : ((ks.map Sub.mk).map (av : Sub → AV)).length = ks.length := by simp
 have hall := fun k hk => KX (R := AM) (fun t h => Gz h) k (Ch.1 hrk.2 k hk)
 simp +contextual -dsimp (maxSteps := 2000000) only [↓SD, SU, simprocAttr, Ia, Bb, hkm]
 intro v2 v3
 refine DU (X := Nat × Nat) (fun x => ⟨[(1, .obj [.int .i64 n.kind, .int .i64 n.pos, .int .i64 n.n, .str n.s, .sl (n.kids.map av), .sl (n.Ae.map av), .sl ((ks.map Sub.mk).map av)]), (2, .ptr 2 v2 0 0), (3, .ptr 3 v3 0 0), (13, .int .i64 ks.length), (14, .int .i64 x.1)], [(2, ⟨v2, false, 52, 7, [.agg [.int .i64 0, .int .i64 0, .int .i64 0, .str (bs []), .An, .An, .An]]⟩), (3, ⟨v3, false, 52, 7, [.agg [.int .i64 n.kind, .int .i64 n.pos, .int .i64 n.n, .str n.s, .sl (n.kids.map av), .sl (n.Ae.map av), .row 26 x.2 x.1]]⟩), (26, ⟨x.2, false, 52, 7, (((ks.take x.1).map (AZ AM)).map Sub.mk).map av⟩)]⟩) (fun x => x.1 ≤ ks.length) (fun x => ks.length - x.1) ?_ ?_
 ·refine Af.FC 3 0 6 26 52 7 rfl rfl Nat.zero_lt_one rfl (by decide) fun z => ?_
  exact Af.le ⟨(0, z), Nat.zero_le _, rfl⟩ (by simp +contextual -dsimp only [↓SD, SU, simprocAttr]) (by simp +contextual -dsimp only [↓SD, SU, simprocAttr, List.take_zero, List.map_nil])
 rintro ⟨j, z⟩ hj
 dsimp only at hj ⊢
 by_cases hlt : j < ks.length
 ·have hlt3 : j < (ks.map Sub.mk).length := by rw [List.length_map]; exact hlt
  have e1 := getD_map av (ks.map Sub.mk) j .top hlt3
  rw [List.getElem_map] at e1
  have hm := List.getElem_mem hlt
  have hkr := Ch.1 hrk.2 _ hm
  have hks := Cq hm
  have CR := ih ks[j] hm hkr (by omega)
  have hS : (((ks.take (j + 1)).map (AZ AM)).map Sub.mk).map (av : Sub → AV) = (((ks.take j).map (AZ AM)).map Sub.mk).map av ++ [av (Sub.mk (AZ AM ks[j]))] := by
   rw [List.take_succ_eq_append_getElem hlt, List.map_append, List.map_append, List.map_append]; rfl
  have hSl : ((((ks.take j).map (AZ AM)).map Sub.mk).map (av : Sub → AV)).length = j := by simp; omega
  generalize (((ks.take j).map (AZ AM)).map Sub.mk).map (av : Sub → AV) = SS at *
  generalize AZ AM ks[j] = t' at *
  generalize ks[j] = t at *
  have hSt : List.take j SS = SS := List.take_of_length_le (by omega)
  simp +contextual -dsimp (maxSteps := 2000000) only [↓SD, SU, simprocAttr, hlt, hkm, e1, Bh, Bl, Bi, AQ, BI]
  refine Aa _ CR ?_
  simp +contextual -dsimp (maxSteps := 2000000) only [↓SD, SU, simprocAttr, Bh, Bl, Bi, AQ, BI, GV, hSl, hSt]
  refine ⟨⟨by omega, by unfold maxLen; omega⟩, fun z' => ⟨by omega, Af.le ⟨(j + 1, z'), ⟨hlt, (by first | omega | (simp only; omega))⟩, rfl⟩ (by simp +contextual -dsimp only [↓SD, SU, simprocAttr, Int.natCast_add]) (by simp +contextual -dsimp only [↓SD, SU, simprocAttr, hS])⟩⟩
 ·obtain rfl : j = ks.length := by omega
  rw [List.take_length]
  have hSl : (((ks.map (AZ AM)).map Sub.mk).map (av : Sub → AV)).length = ks.length := by simp
  have hSt : List.take ks.length (((ks.map (AZ AM)).map Sub.mk).map (av : Sub → AV)) = ((ks.map (AZ AM)).map Sub.mk).map av := List.take_of_length_le (by omega)
  have hSm : ∀ hp, (((ks.map (AZ AM)).map Sub.mk).map (av : Sub → AV)).map (AV.pur hp) = ((ks.map (AZ AM)).map Sub.mk).map av := fun hp => AB _ hp
  rw [KY]
  have hll : (ks.map (AZ AM)).length = ks.length := List.length_map _
  have hall2 : ∀ k ∈ ks.map (AZ AM), k.rk ∧ k.size ≤ 600 := fun k hk => by
   obtain ⟨q, hq, rfl⟩ := List.mem_map.1 hk
   have h1 := hall q hq
   have h2 := Cq hq
   exact ⟨h1.1, by omega⟩
  simp +contextual -dsimp (maxSteps := 2000000) only [↓SD, SU, simprocAttr, Nat.lt_irrefl]
  generalize ks.map (AZ AM) = L at *
  refine EK (Af.frz 26 (Af.XW 3 (b := ⟨v3, false, 52, 7, [.agg [.int .i64 n.kind, .int .i64 n.pos, .int .i64 n.n, .str n.s, .sl (n.kids.map av), .sl (n.Ae.map av), .row 26 z ks.length]]⟩) rfl (Af.here ?_)))
  by_cases h13 : n.kind = 13
  ·have E13 := eq_true h13
   have hl := hrk.1.2.2.1 h13
   have hL0 : 0 < L.length := by omega
   have hL1 : (0 : Int) < (ks.length : Int) := by omega
   have eK : ∀ i (h : i < L.length), ((L.map Sub.mk).map (av : Sub → AV)).getD i .top = av (Sub.mk L[i]) := fun i h => by
    have h3 : i < (L.map Sub.mk).length := by rw [List.length_map]; exact h
    have e1 := getD_map av (L.map Sub.mk) i .top h3
    rwa [List.getElem_map] at e1
   have eK0 := eK 0 hL0
   have hgk : ∀ i (h : i < L.length), L.getD i (.mk default []) = L[i] := fun i h => by simp [List.getD_eq_getElem?_getD, h]
   have ha := hall2 _ (List.getElem_mem hL0)
   obtain ⟨m, js, hmj⟩ : ∃ m js, L[0] = .mk m js := by
    cases h : L[0] with
    | mk m js => exact ⟨m, js, rfl⟩
   have hjl : js.length ≤ 600 := by have h1 := ha.2; rw [hmj, Tr.size] at h1; have := Cy js; omega
   have CB := P0 m js (by omega)
   have CA := N7 m js.length (by omega)
   have hpl : Es (L.getD 0 (.mk default [])) = CG m js.length := by rw [hgk 0 hL0, hmj]; rfl
   have hhd : (L.getD 0 (.mk default [])).hd = m := by rw [hgk 0 hL0, hmj]; rfl
   rw [← hmj] at CB
   have hB1 : (KR m js.length).kind = m.kind := rfl
   have hBh : ∀ q, JZ q (KR m js.length) = JZ q m := fun q => rfl
   generalize KR m js.length = B at *
   rw [AM, hpl, hhd]
   rw [As] at CB
   have CA' := CA
   rw [As] at CA'
   have hm1 : ∀ hp, (B.kids.map (av : Int → AV)).map (AV.pur hp) = B.kids.map av := fun hp => AB _ hp
   have hm2 : ∀ hp, (B.Ae.map (av : Pat → AV)).map (AV.pur hp) = B.Ae.map av := fun hp => AB _ hp
   simp +contextual -dsimp (maxSteps := 2000000) only [↓SD, SU, simprocAttr, hSl, hSt, hSm, E13, Nat.le_refl, eK0, hL1, Bh, Bl, Bi, AQ, BI]
   refine Aa _ CB ?_
   simp +contextual -dsimp (maxSteps := 2000000) only [↓SD, SU, simprocAttr, hm1, hm2]
   intro v5
   refine Aa _ CA' ?_
   cases hp : CG m js.length with
   | false =>
    rw [if_neg (fun h => by cases h.2.1)]
    simp +contextual -dsimp (maxSteps := 2000000) only [↓SD, SU, simprocAttr, hSl, hSt, hSm, Nat.le_refl, Bh, Bl, Bi, AQ, BI]
    rw [Bb]
   | true =>
    by_cases h2 : m.kind = 2
    ·have E2 := eq_true h2
     rw [if_neg (fun h => h.2.2 h2)]
     simp +contextual -dsimp (maxSteps := 2000000) only [↓SD, SU, simprocAttr, hSl, hSt, hSm, hB1, E2, Nat.le_refl, Bh, Bl, Bi, AQ, BI]
     rw [Bb]
    ·have E2 := eq_false h2
     rw [if_pos ⟨h13, rfl, h2⟩]
     simp +contextual -dsimp (maxSteps := 2000000) only [↓SD, SU, simprocAttr, hSl, hSt, hSm, hB1, E2, Nat.le_refl, Bh, Bl, Bi, AQ, BI]
     have hkx : n.Ae.length ≤ 4294967296 := by
      have b4 : Ac.bulk n = Ac.bulk n.kind + Ac.bulk n.pos + Ac.bulk n.n + Ac.bulk n.s + Ac.bulk n.kids + Ac.bulk n.Ae + 1 := rfl
      have b5 := hrk.1.2.2.2.2.2.2
      have b6 := Ai n.Ae
      omega
     refine Am (X := Nat) (fun j => ⟨[(1, .obj [.int .i64 n.kind, .int .i64 n.pos, .int .i64 n.n, .str n.s, .sl (n.kids.map av), .sl (n.Ae.map av), .sl ((ks.map Sub.mk).map av)]), (2, .ptr 2 v2 0 0), (3, .ptr 3 v3 0 0), (5, .ptr 5 v5 0 0), (50, .sl (n.Ae.map av)), (51, .int .i64 n.Ae.length), (52, .int .i64 j)], [(2, ⟨v2, false, 52, 7, [.agg [.int .i64 0, .int .i64 0, .int .i64 0, .str (bs []), .An, .An, .An]]⟩), (3, ⟨v3, false, 52, 7, [.agg [.int .i64 n.kind, .int .i64 n.pos, .int .i64 n.n, .str n.s, .sl (n.kids.map av), .sl (n.Ae.map av), .sl ((L.map Sub.mk).map av)]]⟩), (5, ⟨v5, false, 49, 6, [.agg [.int .i64 m.kind, .int .i64 B.pos, .int .i64 B.n, .str B.s, .sl (B.kids.map av), .sl (B.Ae.map av)]]⟩)]⟩) (fun j => j ≤ n.Ae.length ∧ ∀ k (hk : k < n.Ae.length), k < j → JZ n.Ae[k] m = false) (fun j => n.Ae.length - j) 0 ⟨Nat.zero_le _, fun k hk h => by omega⟩ (by simp +contextual -dsimp only [↓SD, SU, simprocAttr, Ab]) (by simp +contextual -dsimp only [↓SD, SU, simprocAttr]) ?_
     rintro j ⟨hj, hjf⟩
     try dsimp only at hj hjf ⊢
     by_cases hlt : j < n.Ae.length
     ·have eQ := getD_map av n.Ae j .top hlt
      have hne := hrk.1.2.2.2.2.1 _ (List.getElem_mem hlt)
      have hbj := Au (List.getElem_mem hlt)
      have hbq : Ac.bulk n.Ae[j] ≤ 4294967296 := by
       have b4 : Ac.bulk n = Ac.bulk n.kind + Ac.bulk n.pos + Ac.bulk n.n + Ac.bulk n.s + Ac.bulk n.kids + Ac.bulk n.Ae + 1 := rfl
       have b5 := hrk.1.2.2.2.2.2.2
       omega
      have CH := Yc n.Ae[j] B hne hbq
      rw [hBh, As, hB1] at CH
      obtain ⟨⟨l⟩, hq⟩ : ∃ q, q = n.Ae[j] := ⟨_, rfl⟩
      rw [← hq] at eQ hne CH
      rw [B7] at eQ CH
      dsimp only at hne eQ CH
      have hl2 : 0 < l.length := List.length_pos_iff.2 hne
      have hl3 : (0 : Int) < (l.length : Int) := by omega
      have eX := getD_map av l 0 .top hl2
      have hgx : l.getD 0 default = l[0] := by simp [List.getD_eq_getElem?_getD, hl2]
      generalize hx : l[0] = x at *
      rw [AU] at eX
      have hm3 : ∀ hp, (l.map (av : Bg → AV)).map (AV.pur hp) = l.map av := fun hp => AB _ hp
      simp +contextual -dsimp (maxSteps := 2000000) only [↓SD, SU, simprocAttr, Ab, hlt, eQ, hm1, hm2, hm3]
      intro v7
      refine Aa _ CH ?_
      cases hh : JZ ⟨l⟩ m with
      | false =>
       simp +contextual -dsimp (maxSteps := 2000000) only [↓SD, SU, simprocAttr]
       refine ⟨by omega, Af.le ⟨j + 1, ⟨⟨hlt, fun k hk hkj => ?_⟩, (by first | omega | (simp only; omega))⟩, rfl⟩ (by simp +contextual -dsimp only [↓SD, SU, simprocAttr, Int.natCast_add]) (by simp +contextual -dsimp only [↓SD, SU, simprocAttr])⟩
       rcases Nat.lt_or_ge k j with h | h
       ·exact hjf k hk h
       ·obtain rfl : k = j := by omega
        rw [← hq]; exact hh
      | true =>
       have hgp : n.Ae.getD j default = ⟨l⟩ := by rw [hq]; simp [List.getD_eq_getElem?_getD, hlt]
       rw [KL hlt (fun k hk => hjf k (by omega) hk) (by rw [← hq]; exact hh)]
       dsimp only
       rw [hgp, hgx]
       have hj4 : j + 1 < L.length := by omega
       have hj0 : -9223372036854775808 ≤ (j : Int) + 1 := by omega
       have hj1 : (j : Int) + 1 ≤ 9223372036854775807 := by omega
       have hj2 : 0 ≤ (j : Int) + 1 := by omega
       have hj3 : (j : Int) + 1 < (ks.length : Int) := by omega
       have hjn : ((j : Int) + 1).toNat = j + 1 := by omega
       have eK1 := eK (j + 1) hj4
       rw [hgk (j + 1) hj4, hgk 0 hL0]
       by_cases hx2 : x.kind = 2
       ·have E2 := eq_true hx2
        rw [if_pos hx2]
        simp +contextual -dsimp (maxSteps := 2000000) only [↓SD, SU, simprocAttr, Ab, eX, hl2, hl3, E2, hSl, hSt, hSm, eK0, eK1, hL1, hj0, hj1, hj2, hj3, hj4, hjn, Bh, Bl, Bi, AQ, BI, GV]
        refine Aa _ (AbN 7 n.pos x.s [Sub.mk L[0], Sub.mk L[j + 1]]) ?_
        simp +contextual -dsimp (maxSteps := 2000000) only [↓SD, SU, simprocAttr]
        rw [Bb]
        rfl
       ·have E2 := eq_false hx2
        rw [if_neg hx2]
        obtain ⟨rn, rk, hmk⟩ : ∃ rn rk, L[j + 1] = .mk rn rk := by
         cases h : L[j + 1] with
         | mk a b => exact ⟨a, b, rfl⟩
        rw [hmk] at eK1 ⊢
        rw [Bb] at eK1 ⊢
        simp +contextual -dsimp (maxSteps := 2000000) only [↓SD, SU, simprocAttr, Ab, eX, hl2, hl3, E2, hSl, hSt, hSm, eK0, eK1, hL1, hj0, hj1, hj2, hj3, hj4, hjn, Bh, Bl, Bi, AQ, BI]
     ·obtain rfl : j = n.Ae.length := by omega
      rw [KM (fun k hk => hjf k hk hk)]
      simp +contextual -dsimp (maxSteps := 2000000) only [↓SD, SU, simprocAttr, Nat.lt_irrefl, hSl, hSt, hSm]
      rw [Bb]
  ·have E13 := eq_false h13
   have hcho : AM (.mk n L) = .mk n L := by rw [AM, if_neg (fun h => h13 h.1)]
   rw [hcho]
   simp +contextual -dsimp (maxSteps := 2000000) only [↓SD, SU, simprocAttr, hSl, hSt, hSm, E13, Nat.le_refl]
   rw [Bb]
theorem QW (p : Program) (hx : Ac.bulk p ≤ 4294967296) : Ah Tryz.prog 18 [av p] (av (Dj AM p)) := by
 obtain ⟨q1, q2, q3, q4⟩ := CD hx
 have C := Du p hx
 rw [Ag] at C
 cases hb : Bv p with
 | false =>
  rw [hb] at C
  have e : Dj AM p = ⟨[], []⟩ := by rw [Dj, if_neg (by rw [hb]; simp)]
  rw [e]
  refine Eo (r := .agg [.An, .An]) (F1.F rfl (by simp; exact AVal.clean p) (Ad.agg (by simp; exact Ad.An)) ?_) (fun S w v h => X8 h)
  simp +contextual -dsimp (maxSteps := 2000000) only [↓SD, SU, simprocAttr, F1, Ag]
  intro v2
  refine Aa _ C ?_
  simp +contextual -dsimp (maxSteps := 2000000) only [↓SD, SU, simprocAttr]
 | true =>
  rw [hb] at C
  obtain ⟨f1, f2, f3, f4, f5⟩ := Dk hx hb
  have hk : ∀ i, i < p.nodes.length → ∀ k ∈ Aq p.nodes i, (i : Int) < k ∧ k < p.nodes.length := fun i hi k hk => Ef f3 hi hk
  have G := Nt p hk q2 p.nodes.length 0 (by omega) (by omega)
  rw [show Bw p.nodes p.nodes.length 0 = Al p.nodes 0 from rfl, Ag] at G
  have hT := Nk hx hb
  have hsz := (Fv hx hb).2.2.2.1
  have CS := TJ _ hT hsz
  have hR := KX (R := AM) (fun t h => Gz h) _ hT
  have CP := Li p _ q1 (show (AZ AM (Al p.nodes 0)).size ≤ 600 by omega)
  have e : Dj AM p = ⟨p.types, Bz 0 (AZ AM (Al p.nodes 0))⟩ := by rw [Dj, if_pos hb]
  rw [e]
  rw [Ag, Ag] at CP
  rw [Ag]
  refine F1.F rfl (by simp; exact AVal.clean p) (AVal.clean (⟨p.types, Bz 0 (AZ AM (Al p.nodes 0))⟩ : Program)) ?_
  clear e hR
  generalize AZ AM (Al p.nodes 0) = T' at *
  generalize Al p.nodes 0 = T at *
  generalize Bz 0 T' = L at *
  have hlm : ∀ hp, (L.map (av : Node → AV)).map (AV.pur hp) = L.map av := fun hp => AB _ hp
  have htm : ∀ hp, (p.types.map (av : BF → AV)).map (AV.pur hp) = p.types.map av := fun hp => AB _ hp
  simp +contextual -dsimp (maxSteps := 2000000) only [↓SD, SU, simprocAttr, F1, Ag]
  intro v2
  refine Aa _ C ?_
  simp +contextual -dsimp (maxSteps := 2000000) only [↓SD, SU, simprocAttr]
  refine Aa _ G ?_
  simp +contextual -dsimp (maxSteps := 2000000) only [↓SD, SU, simprocAttr, AQ]
  refine Aa _ CS ?_
  simp +contextual -dsimp (maxSteps := 2000000) only [↓SD, SU, simprocAttr, AQ]
  refine Aa _ CP ?_
  simp +contextual -dsimp (maxSteps := 2000000) only [↓SD, SU, simprocAttr, hlm, htm]
end Go.Proofs.YtppjinmlfcokaaaGreat
set_option linter.unusedVariables false
set_option maxRecDepth 100000
namespace Go.Proofs.YtppjinmlfcokaaaGreat
open Go.Proofs.YtppjinmlfcokaaaGreat.Av

theorem GI : Tryz.prog.follows .mixedOrders = true := by kernel_rfl

def Cs : Ir Tryz.prog 81 [(60,60), (72, 7777)] [] 1 := ⟨_, _, Tryz.func81, GI, by kernel_rfl, Aj [] Tryz.progTables (by conv => lhs; cbv) (by kernel_rfl)⟩
def IU : Ir Tryz.prog 82 [] [] 1 := ⟨_, _, Tryz.func82, GI, by kernel_rfl, Aj [] Tryz.progTables (by conv => lhs; cbv) (by kernel_rfl)⟩
def JB : Ir Tryz.prog 42 [(1,1)] [7] 1 := ⟨_, _, Tryz.func42, GI, by kernel_rfl, Aj [] Tryz.progTables (by conv => lhs; cbv) (by kernel_rfl)⟩
def Hk : Ir Tryz.prog 17 [(37,7774)] [14] 1 := ⟨_, _, Tryz.func17, GI, by kernel_rfl, Aj [] Tryz.progTables (by conv => lhs; cbv) (by kernel_rfl)⟩
end Go.Proofs.YtppjinmlfcokaaaGreat
set_option linter.unusedVariables false
namespace Go.Proofs.YtppjinmlfcokaaaGreat
open Go.RowKit Go.Proofs.YtppjinmlfcokaaaGreat.Av
open Go.Proofs.YtppjinmlfcokaaaGreat.Av.AVal (av)

theorem Af.Agh {fr : List (Nat × AV)} {T : St → Prop} : ∀ (ks : List Nat) {hp : Hp}, Af ⟨fr, BZ ks hp⟩ T → Af ⟨fr, hp⟩ T
 | [], _, h => h
 | k :: r, _, h => Af.frz k (Af.Agh r h)
end Go.Proofs.YtppjinmlfcokaaaGreat
set_option linter.unusedVariables false
set_option linter.unusedSimpArgs false
namespace Go.Proofs.YtppjinmlfcokaaaGreat
open Go.RowKit Go.Proofs.YtppjinmlfcokaaaGreat.Av
open Go.Proofs.YtppjinmlfcokaaaGreat.Av.AVal (av)

mutual
def nz : AV → AV
 | .agg cs => .agg (nzL cs)
 | .tup cs => .tup (nzL cs)
 | .sl es => .sl (nzL es)
 | .An => .sl []
 | x => x
def nzL : List AV → List AV
 | [] => []
 | x :: l => nz x :: nzL l
end
theorem K5 : ∀ l : List AV, nzL l = l.map nz
 | [] => by rw [nzL]; rfl
 | x :: l => by rw [nzL, K5 l]; rfl
theorem Ac7 {x : AV} (h : x.one = true) : (nz x).one = true := by cases x <;> first | (simp [AV.one] at h; done) | (simp only [nz, AV.one])
theorem VC (x : AV) : (nz x).cells = x.cells.map nz := by cases x <;> simp [nz, AV.cells, K5]
theorem Av.VR.nz {S : Nat → Prop} {w : World} {μ : Mu} {v : Value} {x : AV} (h : VR S w μ v x) : VR S w μ v (Go.Proofs.YtppjinmlfcokaaaGreat.nz x) := by
 induction h with
 | agg cs xs hl h1 h ih =>
  rw [Go.Proofs.YtppjinmlfcokaaaGreat.nz, K5]
  refine .agg cs _ (by simpa using hl) (fun y hy => ?_) (fun i v y p q => ?_)
  ·obtain ⟨x, hx, rfl⟩ := List.mem_map.1 hy; exact Ac7 (h1 x hx)
  ·simp only [List.getElem?_map, Option.map_eq_some_iff] at q
   obtain ⟨x, hx, rfl⟩ := q
   exact ih i v x p hx
 | tup cs xs hl h ih =>
  rw [Go.Proofs.YtppjinmlfcokaaaGreat.nz, K5]
  refine .tup cs _ (by simpa using hl) (fun i v y p q => ?_)
  simp only [List.getElem?_map, Option.map_eq_some_iff] at q
  obtain ⟨x, hx, rfl⟩ := q
  exact ih i v x p hx
 | sl b o cap esz vs es hS hl hm hz hc hh ih =>
  rw [Go.Proofs.YtppjinmlfcokaaaGreat.nz, K5]
  have hln : es.length = (es.map Go.Proofs.YtppjinmlfcokaaaGreat.nz).length := by simp
  rw [hln]
  refine .sl b o cap esz vs _ hS (by simpa using hl) hm (fun e he => ?_) (fun i j hi => hc i j (by simpa using hi)) (fun i j e x p q => ?_)
  ·obtain ⟨e', he', rfl⟩ := List.mem_map.1 he
   rw [VC]
   refine ⟨by rw [List.length_map]; exact (hz e' he').1, fun y hy => ?_⟩
   obtain ⟨x, hx, rfl⟩ := List.mem_map.1 hy
   exact Ac7 ((hz e' he').2 x hx)
  ·simp only [List.getElem?_map, Option.map_eq_some_iff] at p
   obtain ⟨e', he', rfl⟩ := p
   rw [VC, List.getElem?_map, Option.map_eq_some_iff] at q
   obtain ⟨x', hx', rfl⟩ := q
   exact ih i j e' x' he' hx'
 | An => rw [Go.Proofs.YtppjinmlfcokaaaGreat.nz]; exact .sl0 none 0 (Nat.zero_le _)
 | bool b => exact .bool b
 | int k n h1 h2 => exact .int k n h1 h2
 | str s h => exact .str s h
 | DE => exact .DE
 | obj b o vs xs hS h1 hc h ih => exact .obj b o vs xs hS h1 hc h
 | sl0 a cap hc => exact .sl0 a cap hc
 | fn f cs xs hl h ih => exact .fn f cs xs hl h
 | Iy => exact .Iy
 | ptr k v i off b cap esz h => exact .ptr k v i off b cap esz h
 | row k v n b cap esz h hn hm => exact .row k v n b cap esz h hn hm
 | Iw k v cap esz h => exact .Iw k v cap esz h
 | top v => exact .top v
def AeE (hp : Hp) : AV → AV
 | .tup cs => .tup (cs.map (AV.pur hp))
 | x => x.pur hp
theorem Av.VR.AeE {E : Env} {S : Nat → Prop} {w : World} {μ : Mu} {hp : Hp} (hw : WI E S w μ hp) {v : Value} {x : AV} (h : VR S w μ v x) : VR S w μ v (Go.Proofs.YtppjinmlfcokaaaGreat.AeE hp x) := by
 cases x with
 | tup xs =>
  cases h with | tup cs _ hl hh =>
  refine .tup cs _ (by simpa using hl) (fun i v y p q => ?_)
  simp only [List.getElem?_map, Option.map_eq_some_iff] at q
  obtain ⟨x, hx, rfl⟩ := q
  exact (hh i v x p hx).pur hw
 | _ => exact h.pur hw
theorem WN {P : Go.Program} {f : FuncId} {args : List AV} {hp : Hp} {Post Post2 : AV → Hp → Prop} (h : Bu P f args hp Post) (hg : ∀ r hp', Post r hp' → ∃ ks hp2, AR (BZ ks hp') hp2 ∧ Post2 (nz (AeE (BZ ks hp') r)) hp2) : Bu P f args hp Post2 := by
 obtain ⟨hc, h⟩ := h
 refine ⟨hc, fun S w μ vs hW hv => (h S w μ vs hW hv).mono fun e w' ⟨v, r, hp', S', μ', he, hpst, hvr, hw'⟩ => ?_⟩
 obtain ⟨ks, hp2, h1, h2⟩ := hg _ _ hpst
 obtain ⟨S1, w1, s1⟩ := WI.BZ (S := S') ks hw'
 exact ⟨v, _, hp2, S1, μ', he, h2, ((hvr.mono s1 (BU.refl _ _) (Mu.le.refl _)).AeE w1).nz, w1.drop (MV h1)⟩
end Go.Proofs.YtppjinmlfcokaaaGreat
set_option linter.unusedVariables false
set_option linter.unusedSimpArgs false
namespace Go.Proofs.YtppjinmlfcokaaaGreat
open Go.RowKit Go.Proofs.YtppjinmlfcokaaaGreat.Av Go.Proofs.YtppjinmlfcokaaaGreat.Ml
open Go.Proofs.YtppjinmlfcokaaaGreat.Av.AVal (av)

theorem Hg {α : Type} [AVal α] (h : ∀ x : α, nz (av x) = av x) (l : List α) : nz (.sl (l.map av)) = .sl (l.map av) := by
 rw [nz, K5, List.map_map]
 congr 1
 exact List.map_congr_left fun x _ => h x
theorem Ac8 (x : Int) : nz (av x) = av x := eqq rfl
theorem Ada (x : Bg) : nz (av x) = av x := by
 show nz (.agg [_, _, _, .sl (x.kids.map av)]) = _
 rw [nz, nzL, nzL, nzL, nzL, nzL, Hg Ac8]; rfl
theorem AfJ (x : Pat) : nz (av x) = av x := by
 show nz (.agg [.sl (x.nodes.map av)]) = _
 rw [nz, nzL, nzL, Hg Ada]; rfl
theorem AbA (x : AY) : nz (av x) = av x := eqq rfl
theorem AfK (x : Con) : nz (av x) = av x := by
 show nz (.agg [_, _, .sl (x.arg.items.map av)]) = _
 rw [nz, nzL, nzL, nzL, nzL, Hg AbA]; rfl
theorem ZY (x : Node) : nz (av x) = av x := by
 show nz (.agg [_, _, _, _, .sl (x.kids.map av), .sl (x.Ae.map av)]) = _
 rw [nz, nzL, nzL, nzL, nzL, nzL, nzL, nzL, Hg Ac8, Hg AfJ]; rfl
theorem Ac9 (x : BF) : nz (av x) = av x := by
 show nz (.agg [_, _, .sl (x.cons.map av)]) = _
 rw [nz, nzL, nzL, nzL, nzL, Hg AfK]; rfl
theorem X7 (x : Program) : nz (av x) = av x := by
 show nz (.agg [.sl (x.types.map av), .sl (x.nodes.map av)]) = _
 rw [nz, nzL, nzL, nzL, Hg Ac9, Hg ZY]; rfl
theorem YH {P : Go.Program} {f : FuncId} {args : List AV} {r : AV} (h : Ah P f (args.map nz) r) (hp : ∀ x ∈ args, Ad x) : Ah P f args r :=
 ⟨h.1, hp, fun S w vs h1 h2 => h.2.2 S w vs h1 ⟨by rw [h2.1, List.length_map], fun i v x p q => by
  rw [List.getElem?_map, Option.map_eq_some_iff] at q
  obtain ⟨y, hy, rfl⟩ := q
  exact (h2.2 i v y p hy).nz⟩⟩
end Go.Proofs.YtppjinmlfcokaaaGreat
set_option linter.unusedVariables false
set_option maxRecDepth 100000
set_option linter.unusedVariables false
set_option linter.unusedSimpArgs false
set_option maxRecDepth 100000
set_option linter.unusedVariables false
set_option linter.unusedSimpArgs false
set_option maxRecDepth 100000
