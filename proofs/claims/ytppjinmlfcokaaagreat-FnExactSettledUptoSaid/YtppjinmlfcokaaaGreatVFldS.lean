/-
 Fold OF THE REFERENCE, by its abstract text. Conditions: none.
-/
import Derived.Test.YtppjinmlfcokaaaGreatVJ26
import Derived.Test.YtppjinmlfcokaaaGreatVJ25
import Derived.Test.YtppjinmlfcokaaaGreatVJ45
import Derived.Test.YtppjinmlfcokaaaGreatVJ43
import Derived.Test.YtppjinmlfcokaaaGreatVJ44
import Derived.Test.YtppjinmlfcokaaaGreatVJ41
set_option linter.unusedVariables false
set_option linter.unusedSimpArgs false
set_option maxRecDepth 100000
namespace Go.Proofs.YtppjinmlfcokaaaGreat
open Go.RowKit Go.Proofs.YtppjinmlfcokaaaGreat.Av Go.Proofs.YtppjinmlfcokaaaGreat.Ml
open Go.Proofs.YtppjinmlfcokaaaGreat.Av.AVal (av)

theorem P4 (k pos : Int) (s : ByteArray) : Ah Tryz.prog 87 [.int .i64 k, .int .i64 pos, .str s, .An] (.agg [.int .i64 k, .int .i64 pos, .int .i64 0, .str s, .An, .An, .An]) := by
 refine FX.F rfl (by simp; exact ⟨BB _, BB _, Ad.str _, Ad.An⟩) (Ad.agg (by simp; exact ⟨BB _, BB _, BB _, Ad.str _, Ad.An⟩)) ?_
 simp +contextual -dsimp (maxSteps := 2000000) only [↓SD, SU, simprocAttr, FX]
def Agf (m : Node) : AV := .agg [.int .i64 m.kind, .int .i64 m.pos, .int .i64 m.n, .str m.s, .An, .An, .An]
def Vl (n : Node) (ks : List Tr) : AV := match Mi n (kid ks 0).hd (kid ks 1).hd with
 | some m => Agf m
 | none => av (Sub.mk (.mk n ks))
theorem X1 (n : Node) (ks : List Tr) : Ad (Vl n ks) := by
 unfold Vl
 split
 ·exact Ad.agg (by simp; exact ⟨BB _, BB _, BB _, Ad.str _, Ad.An⟩)
 ·exact AVal.clean _
set_option maxHeartbeats 4000000 in
theorem VT (n : Node) (ks : List Tr) (hf : (Tr.mk n ks).each (FQ 2100000)) (h10 : n.kind = 10) : Ah Tryz.prog 81 [av (Sub.mk (.mk n ks))] (Vl n ks) := by
 have hf0 := hf
 rw [Tr.each] at hf
 obtain ⟨⟨⟨hp, _, _, _⟩, _, _⟩, hfs⟩ := hf
 obtain ⟨hl, hop⟩ := hp h10
 match ks, hl with
 | [a, b], _ =>
 have ha : a.each (FQ 2100000) := Dh.1 hfs a (by simp)
 have hb : b.each (FQ 2100000) := Dh.1 hfs b (by simp)
 obtain ⟨m, ls⟩ := a
 obtain ⟨m', ls'⟩ := b
 rw [Tr.each] at ha hb
 have ra := ha.1.1.2.2.2
 have rb := hb.1.1.2.2.2
 have sa : m.s.size ≤ 4294967296 := by have h1 := ha.1.2.1; unfold Ew at h1; omega
 have sb : m'.s.size ≤ 4294967296 := by have h1 := hb.1.2.1; unfold Ew at h1; omega
 refine Cs.F rfl (by simp; exact AVal.clean _) (X1 _ _) ?_
 have k0 : (kid [Tr.mk m ls, Tr.mk m' ls'] 0).hd = m := rfl
 have k1 : (kid [Tr.mk m ls, Tr.mk m' ls'] 1).hd = m' := rfl
 unfold Vl
 rw [k0, k1]
 unfold Mi
 by_cases h94 : n.s = bs [94]
 ·have E := eq_true h94
  rw [if_pos h94]
  by_cases hk : m.kind = 2 ∧ m'.kind = 2
  ·have q1 : -9223372036854775808 ≤ (m.s.size : Int) + m'.s.size := by omega
   have q2 : (m.s.size : Int) + m'.s.size ≤ 9223372036854775807 := by omega
   by_cases hz : m.s.size + m'.s.size ≤ 1000
   ·have hz1 : (m.s.size : Int) + m'.s.size ≤ 1000 := by omega
    rw [if_pos ⟨hk.1, hk.2, hz⟩]
    simp +contextual -dsimp (maxSteps := 2000000) only [↓SD, SU, simprocAttr, Cs, Bb, List.map_cons, List.map_nil, E, hk.1, hk.2, q1, q2, hz1]
    intro v2 v3 v4
    refine ⟨by unfold maxLen; omega, ?_⟩
    refine Aa _ (P4 2 n.pos (m.s ++ m'.s)) ?_
    simp +contextual -dsimp (maxSteps := 2000000) only [↓SD, SU, simprocAttr]
    rfl
   ·have hz1 : ¬ (m.s.size : Int) + m'.s.size ≤ 1000 := by omega
    rw [if_neg (fun h => hz h.2.2)]
    simp +contextual -dsimp (maxSteps := 2000000) only [↓SD, SU, simprocAttr, Cs, Bb, List.map_cons, List.map_nil, E, hk.1, hk.2, q1, q2, hz1]
    done
  ·rw [if_neg (fun h => hk ⟨h.1, h.2.1⟩)]
   by_cases h2 : m.kind = 2
   ·have E3 := eq_false (fun h => hk ⟨h2, h⟩ : ¬ m'.kind = 2)
    simp +contextual -dsimp (maxSteps := 2000000) only [↓SD, SU, simprocAttr, Cs, Bb, List.map_cons, List.map_nil, E, h2, E3]
    done
   ·have E2 := eq_false h2
    simp +contextual -dsimp (maxSteps := 2000000) only [↓SD, SU, simprocAttr, Cs, Bb, List.map_cons, List.map_nil, E, E2]
    done
 ·have E := eq_false h94
  rw [if_neg h94]
  by_cases hk : m.kind = 1 ∧ m'.kind = 1
  ·have C := fun v => Yh v n.s m.n m'.n (by have := ra hk.1; unfold I64; omega) (by have := rb hk.2; unfold I64; omega) hop h94
   rw [if_pos hk]
   simp +contextual -dsimp (maxSteps := 2000000) only [↓SD, SU, simprocAttr, Cs, Bb, List.map_cons, List.map_nil, E, hk.1, hk.2]
   intro v2 v3 v4 v60
   refine Bx [60] (C v60) (by simp +contextual -dsimp only [↓SD, SU, simprocAttr, mB]) ?_
   rintro r hp' ⟨rfl, st, nn, rfl⟩
   unfold AcQ
   generalize FF n.s m.n m'.n = V at *
   obtain ⟨x, tb, ok⟩ := V
   cases tb with
   | true =>
    simp +contextual -dsimp (maxSteps := 2000000) only [↓SD, SU, simprocAttr, mB]
    intro v6
    refine Aa _ (P4 4 n.pos (GL x)) ?_
    simp +contextual -dsimp (maxSteps := 2000000) only [↓SD, SU, simprocAttr]
    rfl
   | false =>
    cases ok with
    | true =>
     by_cases hx : 0 ≤ x
     ·simp +contextual -dsimp (maxSteps := 2000000) only [↓SD, SU, simprocAttr, mB, hx]
      rfl
     ·simp +contextual -dsimp (maxSteps := 2000000) only [↓SD, SU, simprocAttr, mB, hx]
      done
    | false =>
     simp +contextual -dsimp (maxSteps := 2000000) only [↓SD, SU, simprocAttr, mB]
     rw [if_neg (fun h => h.1)]
  ·rw [if_neg hk]
   by_cases h2 : m.kind = 1
   ·have E3 := eq_false (fun h => hk ⟨h2, h⟩ : ¬ m'.kind = 1)
    simp +contextual -dsimp (maxSteps := 2000000) only [↓SD, SU, simprocAttr, Cs, Bb, List.map_cons, List.map_nil, E, h2, E3]
    done
   ·have E2 := eq_false h2
    simp +contextual -dsimp (maxSteps := 2000000) only [↓SD, SU, simprocAttr, Cs, Bb, List.map_cons, List.map_nil, E, E2]
    done
theorem PM {B : Nat} : ∀ {l : List Node}, (∀ n ∈ l, Ac.bulk n ≤ B) → Ac.bulk l ≤ l.length * B + 1
 | [], _ => by simp [Ac.bulk]
 | n :: l, h => by
  have a1 := h n (by simp)
  have a2 := PM (l := l) fun k hk => h k (by simp [hk])
  have a3 : Ac.bulk (n :: l) = Ac.bulk n + Ac.bulk l := by show (List.map Ac.bulk (n :: l)).sum + 1 = _ + ((l.map Ac.bulk).sum + 1); simp; omega
  rw [a3, List.length_cons, Nat.succ_mul]; omega
theorem Adq {t : Tr} (h : t.each (FQ 2100000)) (hs : t.size ≤ 600) : Ac.bulk (Bz 0 t) ≤ 4294967296 := by
 have h1 := PM (R9 t h 0)
 have h2 := Nat.mul_le_mul_right 2100000 hs
 rw [Dm] at h1
 omega
theorem AbG : ∀ t : Tr, t.rk → ∀ x ∈ Bz 0 t, PN x x.kids.length := fun t h => by
 have key : ∀ t : Tr, t.rk → ∀ b, ∀ x ∈ Bz b t, PN x x.kids.length := Tr.ind fun n ks ih h b x hx => by
  have hm := Adu (.mk n ks) h b x hx
  rw [Tr.rk] at h
  rw [Bz] at hx
  rcases List.mem_cons.1 hx with rfl | hx
  ·exact ⟨fun e => by rw [ED]; exact h.1.1 (.inr (.inr (.inl e))), fun e => by rw [ED]; exact h.1.2.2.1 e, hm⟩
  ·exact Ns (fun k hk b => ih k hk (Ch.1 h.2 k hk) b) _ x hx
 exact key t h 0
def Pw (n : Node) (ks : List Tr) : Tr := match Mi n (kid ks 0).hd (kid ks 1).hd with
 | some m => .mk m []
 | none => .mk n ks
theorem Ye (n : Node) (ks : List Tr) (hf : (Tr.mk n ks).each (FQ 2100000)) (h10 : n.kind = 10) : Ah Tryz.prog 81 [av (Sub.mk (.mk n ks))] (av (Sub.mk (Pw n ks))) := by
 refine Eo (VT n ks hf h10) fun S w v h => ?_
 unfold Vl at h
 unfold Pw
 cases hm : Mi n (kid ks 0).hd (kid ks 1).hd with
 | none => rw [hm] at h; exact h
 | some m =>
  rw [hm] at h
  obtain ⟨k, x, s, rfl, _⟩ := LG hm
  exact h.nz
theorem VU (n : Node) (ks : List Tr) (hl : ks.length ≤ 4294967296) : Ah Tryz.prog 82 [av (Sub.mk (.mk n ks))] (.bool (CG n ks.length || decide (n.kind = 5))) := by
 refine IU.F rfl (by simp; exact AVal.clean _) (Ad.bool _) ?_
 have hkm : ((ks.map Sub.mk).map (av : Sub → AV)).length = ks.length := by simp
 simp +contextual -dsimp (maxSteps := 2000000) only [↓SD, SU, simprocAttr, IU, Bb, hkm]
 unfold CG
 (repeat' (first | intro _ | refine And.intro ?_ ?_))
 all_goals simp_all
set_option maxHeartbeats 4000000 in
theorem Yg : ∀ t : Tr, TK 2100000 t → t.size ≤ 600 → Ah Tryz.prog 42 [av (Sub.mk t)] (av (Sub.mk (AZ Az t))) := by
 refine Tr.ind fun n ks ih hrk hsz => ?_
 refine JB.F rfl (by simp; exact AVal.clean _) (AVal.clean _) ?_
 have hkd := Je n ks hrk
 rw [Tr.size] at hsz
 have hkl := Cy ks
 have hkm : ((ks.map Sub.mk).map (av : Sub → AV)).length = ks.length := by simp
 have hall := fun k hk => GM Je O5 (HQ (B := 2100000) (by decide)) k (hkd k hk)
 simp +contextual -dsimp (maxSteps := 2000000) only [↓SD, SU, simprocAttr, JB, Bb, hkm]
 intro v1 v2 v6
 refine Am (X := Nat × Nat) (fun x => ⟨[(1, .ptr 1 v1 0 0), (2, .ptr 2 v2 0 0), (3, .row 6 x.2 x.1), (9, .int .i64 ks.length), (10, .int .i64 x.1)], [(2, ⟨v2, false, 52, 7, [.agg [.int .i64 0, .int .i64 0, .int .i64 0, .str (bs []), .An, .An, .An]]⟩), (1, ⟨v1, false, 52, 7, [.agg [.int .i64 n.kind, .int .i64 n.pos, .int .i64 n.n, .str n.s, .sl (n.kids.map av), .sl (n.Ae.map av), .sl ((ks.map Sub.mk).map av)]]⟩), (6, ⟨x.2, false, 52, 7, (((ks.take x.1).map (AZ Az)).map Sub.mk).map av⟩)]⟩) (fun x => x.1 ≤ ks.length) (fun x => ks.length - x.1) (0, v6) (Nat.zero_le _) (by simp +contextual -dsimp only [↓SD, SU, simprocAttr]) (by simp +contextual -dsimp only [↓SD, SU, simprocAttr, List.take_zero, List.map_nil]) ?_
 rintro ⟨j, z⟩ hj
 dsimp only at hj ⊢
 by_cases hlt : j < ks.length
 ·have hlt3 : j < (ks.map Sub.mk).length := by rw [List.length_map]; exact hlt
  have e1 := getD_map av (ks.map Sub.mk) j .top hlt3
  rw [List.getElem_map] at e1
  have hm := List.getElem_mem hlt
  have hks := Cq hm
  have CR := ih ks[j] hm (hkd _ hm) (by omega)
  have hS : (((ks.take (j + 1)).map (AZ Az)).map Sub.mk).map (av : Sub → AV) = (((ks.take j).map (AZ Az)).map Sub.mk).map av ++ [av (Sub.mk (AZ Az ks[j]))] := by
   rw [List.take_succ_eq_append_getElem hlt, List.map_append, List.map_append, List.map_append]; rfl
  have hSl : ((((ks.take j).map (AZ Az)).map Sub.mk).map (av : Sub → AV)).length = j := by simp; omega
  generalize (((ks.take j).map (AZ Az)).map Sub.mk).map (av : Sub → AV) = SS at *
  generalize AZ Az ks[j] = t' at *
  generalize ks[j] = t at *
  have hSt : List.take j SS = SS := List.take_of_length_le (by omega)
  simp +contextual -dsimp (maxSteps := 2000000) only [↓SD, SU, simprocAttr, hlt, hkm, e1, Bh, Bl, Bi, AQ, BI]
  refine Aa _ CR ?_
  simp +contextual -dsimp (maxSteps := 2000000) only [↓SD, SU, simprocAttr, Bh, Bl, Bi, AQ, BI, GV, hSl, hSt]
  refine ⟨⟨by omega, by unfold maxLen; omega⟩, fun z' => ⟨by omega, Af.le ⟨(j + 1, z'), ⟨hlt, (by first | omega | (simp only; omega))⟩, rfl⟩ (by simp +contextual -dsimp only [↓SD, SU, simprocAttr, Int.natCast_add]) (by simp +contextual -dsimp only [↓SD, SU, simprocAttr, hS])⟩⟩
 ·obtain rfl : j = ks.length := by omega
  rw [List.take_length]
  have hSl : (((ks.map (AZ Az)).map Sub.mk).map (av : Sub → AV)).length = ks.length := by simp
  have hSt : List.take ks.length (((ks.map (AZ Az)).map Sub.mk).map (av : Sub → AV)) = ((ks.map (AZ Az)).map Sub.mk).map av := List.take_of_length_le (by omega)
  have hSm : ∀ hp, (((ks.map (AZ Az)).map Sub.mk).map (av : Sub → AV)).map (AV.pur hp) = ((ks.map (AZ Az)).map Sub.mk).map av := fun hp => AB _ hp
  rw [KY]
  have hll : (ks.map (AZ Az)).length = ks.length := List.length_map _
  have hT2 : TK 2100000 (.mk n (ks.map (AZ Az))) := O5 n ks _ hrk hll fun k hk => by
   obtain ⟨q, hq, rfl⟩ := List.mem_map.1 hk
   exact (hall q hq).1
  have hall2 : ∀ k ∈ ks.map (AZ Az), k.size ≤ 600 := fun k hk => by
   obtain ⟨q, hq, rfl⟩ := List.mem_map.1 hk
   have h1 := (hall q hq).2
   have h2 := Cq hq
   omega
  simp +contextual -dsimp (maxSteps := 2000000) only [↓SD, SU, simprocAttr, Nat.lt_irrefl]
  generalize ks.map (AZ Az) = L at *
  refine EK ?_
  refine Af.frz 6 ?_
  refine Af.pur 3 ?_
  refine Af.here ?_
  have hfq := hT2.2
  rw [Tr.each] at hfq
  obtain ⟨⟨⟨p10, p9, p19, _⟩, _, _⟩, hfs⟩ := hfq
  have hrk2 := hT2.1
  rw [Tr.rk] at hrk2
  by_cases h10 : n.kind = 10
  ·have E10 := eq_true h10
   have CP := Ye n L hT2.2 h10
   rw [Bb] at CP
   have hR : Az (.mk n L) = Pw n L := by rw [Az, if_pos h10]; rfl
   rw [hR]
   obtain ⟨q, qs, hq⟩ : ∃ q qs, Pw n L = .mk q qs := by
    cases Pw n L with
    | mk a b => exact ⟨a, b, rfl⟩
   rw [hq] at CP ⊢
   rw [Bb] at CP ⊢
   simp +contextual -dsimp (maxSteps := 2000000) only [↓SD, SU, simprocAttr, hSl, hSt, hSm, Nat.le_refl, Bh, Bl, Bi, AQ, BI, E10]
   refine Aa _ CP ?_
   simp +contextual -dsimp (maxSteps := 2000000) only [↓SD, SU, simprocAttr, hSl, hSt, hSm, Nat.le_refl, Bh, Bl, Bi, AQ, BI, AB]
  have E10 := eq_false h10
  by_cases h9 : n.kind = 9
  ·have E9 := eq_true h9
   have hl3 := p9 h9
   match L, hl3 with
   | [.mk m js, .mk mb jb, .mk mc jc], _ =>
   have hR : Az (.mk n [.mk m js, .mk mb jb, .mk mc jc]) = if m.kind = 4 ∧ m.s = GL 1 then .mk mb jb else if m.kind = 4 ∧ m.s = GL 0 then .mk mc jc else .mk n [.mk m js, .mk mb jb, .mk mc jc] := by rw [Az, if_neg h10, if_pos h9]; rfl
   rw [hR]
   have t1 : GL 1 = bs [116, 114, 117, 101] := rfl
   have t0 : GL 0 = bs [102, 97, 108, 115, 101] := rfl
   rw [t1, t0]
   have hk3 : ks.length = 3 := hll.symm
   by_cases m4 : m.kind = 4
   ·have M4 := eq_true m4
    by_cases s1 : m.s = bs [116, 114, 117, 101]
    ·have S1 := eq_true s1
     rw [if_pos ⟨m4, s1⟩]
     simp +contextual -dsimp (maxSteps := 2000000) only [↓SD, SU, simprocAttr, hSl, hSt, hSm, Nat.le_refl, Bh, Bl, Bi, AQ, BI, E10, E9, hk3, List.map_cons, List.map_nil, Bb, M4, S1]
    ·have S1 := eq_false s1
     rw [if_neg (fun h => s1 h.2)]
     by_cases s0 : m.s = bs [102, 97, 108, 115, 101]
     ·have S0 := eq_true s0
      rw [if_pos ⟨m4, s0⟩]
      simp +contextual -dsimp (maxSteps := 2000000) only [↓SD, SU, simprocAttr, hSl, hSt, hSm, Nat.le_refl, Bh, Bl, Bi, AQ, BI, E10, E9, hk3, List.map_cons, List.map_nil, Bb, M4, S1, S0]
     ·have S0 := eq_false s0
      rw [if_neg (fun h => s0 h.2)]
      simp +contextual -dsimp (maxSteps := 2000000) only [↓SD, SU, simprocAttr, hSl, hSt, hSm, Nat.le_refl, Bh, Bl, Bi, AQ, BI, E10, E9, hk3, List.map_cons, List.map_nil, Bb, M4, S1, S0]
   ·have M4 := eq_false m4
    rw [if_neg (fun h => m4 h.1), if_neg (fun h => m4 h.1)]
    simp +contextual -dsimp (maxSteps := 2000000) only [↓SD, SU, simprocAttr, hSl, hSt, hSm, Nat.le_refl, Bh, Bl, Bi, AQ, BI, E10, E9, hk3, List.map_cons, List.map_nil, Bb, M4]
  have E9 := eq_false h9
  by_cases h19 : n.kind = 19
  ·have E19 := eq_true h19
   have hl2 := p19 h19
   match L, hl2 with
   | [.mk m js, .mk mb jb], _ =>
   have hR : Az (.mk n [.mk m js, .mk mb jb]) = if m.kind = 12 then .mk mb jb else .mk n [.mk m js, .mk mb jb] := by rw [Az, if_neg h10, if_neg h9, if_pos h19]; rfl
   rw [hR]
   have hk2 : ks.length = 2 := hll.symm
   by_cases m12 : m.kind = 12
   ·have M := eq_true m12
    rw [if_pos m12]
    simp +contextual -dsimp (maxSteps := 2000000) only [↓SD, SU, simprocAttr, hSl, hSt, hSm, Nat.le_refl, Bh, Bl, Bi, AQ, BI, E10, E9, E19, hk2, List.map_cons, List.map_nil, Bb, M]
   ·have M := eq_false m12
    rw [if_neg m12]
    simp +contextual -dsimp (maxSteps := 2000000) only [↓SD, SU, simprocAttr, hSl, hSt, hSm, Nat.le_refl, Bh, Bl, Bi, AQ, BI, E10, E9, E19, hk2, List.map_cons, List.map_nil, Bb, M]
  have E19 := eq_false h19
  by_cases h7 : n.kind = 7
  ·have E7 := eq_true h7
   have hl2 := hrk2.1.2.1 h7
   match L, hl2 with
   | [.mk m js, b], _ =>
   have hR : Az (.mk n [.mk m js, b]) = if (CG m js.length = true ∨ m.kind = 5) ∧ D7 n.s b = 0 then b else .mk n [.mk m js, b] := by rw [Az, if_neg h10, if_neg h9, if_neg h19, if_pos h7]; rfl
   rw [hR]
   have hk2 : ks.length = 2 := hll.symm
   have hb6 := hall2 b (by simp)
   have ha6 := hall2 (.mk m js) (by simp)
   rw [Tr.size] at ha6
   have hjl := Cy js
   have CPl := VU m js (by omega)
   have CL := LN b (by omega)
   have hbk := Ch.1 hrk2.2 b (by simp)
   have hsz : n.s.size ≤ 4294967296 := by have h1 := hrk2.1.2.2.2.2.2.1; unfold Ew at h1; omega
   have CF : Ah Tryz.prog 83 [av (⟨[], Bz 0 b⟩ : Program), .int .i64 0, .str n.s] (.bool (decide (0 < D7 n.s b))) := by
    have hlen := Dm b 0
    have hb1 : 1 ≤ b.size := by cases b; rw [Tr.size]; omega
    have F := Yf (⟨[], Bz 0 b⟩ : Program) n.s (fun i hi => AbH b i hi) (fun x hx => AbG b hbk x hx) (Adq (Dh.1 hfs b (by simp)) hb6) hsz b.size 0 (by show 0 < (Bz 0 b).length; omega) (by show (Bz 0 b).length - 0 ≤ b.size; omega)
    have e : Bw (Bz 0 b) b.size 0 = NB 0 b := by rw [← Uh, Al, hlen]
    rw [show ((0 : Nat) : Int) = 0 from rfl] at F
    dsimp only at F
    rw [e, AdR] at F
    exact F
   have CF2 : Ah Tryz.prog 83 [.agg [.An, .sl ((Bz 0 b).map av)], .int .i64 0, .str n.s] (.bool (decide (0 < D7 n.s b))) := by
    refine YH ?_ (by simp; exact ⟨Ad.agg (by simp; exact ⟨Ad.An, Ak _⟩), BB _, Ad.str _⟩)
    have e1 : nz (.agg [.An, .sl ((Bz 0 b).map av)]) = av (⟨[], Bz 0 b⟩ : Program) := by
     rw [nz, nzL, nzL, nzL, Hg ZY]; rfl
    rw [List.map_cons, e1]
    exact CF
   have hlm : ∀ hp, ((Bz 0 b).map (av : Node → AV)).map (AV.pur hp) = (Bz 0 b).map av := fun hp => AB _ hp
   rw [Bb] at CPl
   cases hp : (CG m js.length || decide (m.kind = 5)) with
   | false =>
    rw [hp] at CPl
    have hno : ¬ (CG m js.length = true ∨ m.kind = 5) := fun h => by
     rcases h with h | h <;> simp [h] at hp
    rw [if_neg (fun h => hno h.1), Bb]
    simp +contextual -dsimp (maxSteps := 2000000) only [↓SD, SU, simprocAttr, hSl, hSt, hSm, Nat.le_refl, Bh, Bl, Bi, AQ, BI, E10, E9, E19, E7, hk2, List.map_cons, List.map_nil, Bb m js]
    refine Aa _ CPl ?_
    simp +contextual -dsimp (maxSteps := 2000000) only [↓SD, SU, simprocAttr, hSl, hSt, hSm, Nat.le_refl, Bh, Bl, Bi, AQ, BI, hk2, List.map_cons, List.map_nil, Bb m js]
   | true =>
    rw [hp] at CPl
    have hyes : CG m js.length = true ∨ m.kind = 5 := by simpa using hp
    simp +contextual -dsimp (maxSteps := 2000000) only [↓SD, SU, simprocAttr, hSl, hSt, hSm, Nat.le_refl, Bh, Bl, Bi, AQ, BI, E10, E9, E19, E7, hk2, List.map_cons, List.map_nil, Bb m js]
    refine Aa _ CPl ?_
    simp +contextual -dsimp (maxSteps := 2000000) only [↓SD, SU, simprocAttr, hSl, hSt, hSm, Nat.le_refl, Bh, Bl, Bi, AQ, BI, hk2, List.map_cons, List.map_nil, Bb m js]
    refine Aa _ CL ?_
    simp +contextual -dsimp (maxSteps := 2000000) only [↓SD, SU, simprocAttr, hSl, hSt, hSm, Nat.le_refl, Bh, Bl, Bi, AQ, BI, hk2, hlm, List.map_cons, List.map_nil, Bb m js]
    refine Aa _ CF2 ?_
    by_cases hc : D7 n.s b = 0
    ·have hc1 : ¬ 0 < D7 n.s b := by omega
     obtain ⟨q, qs, rfl⟩ : ∃ q qs, b = Tr.mk q qs := by
      cases b with
      | mk a c => exact ⟨a, c, rfl⟩
     rw [if_pos ⟨hyes, hc⟩, Bb]
     simp +contextual -dsimp (maxSteps := 2000000) only [↓SD, SU, simprocAttr, hSl, hSt, hSm, Nat.le_refl, Bh, Bl, Bi, AQ, BI, hk2, hc1, List.map_cons, List.map_nil, Bb]
    ·have hc1 : 0 < D7 n.s b := by omega
     rw [if_neg (fun h => hc h.2), Bb]
     simp +contextual -dsimp (maxSteps := 2000000) only [↓SD, SU, simprocAttr, hSl, hSt, hSm, Nat.le_refl, Bh, Bl, Bi, AQ, BI, hk2, hc1, List.map_cons, List.map_nil, Bb m js]
  have E7 := eq_false h7
  have hR : Az (.mk n L) = .mk n L := by rw [Az, if_neg h10, if_neg h9, if_neg h19, if_neg h7]
  rw [hR]
  rw [Bb]
  simp +contextual -dsimp (maxSteps := 2000000) only [↓SD, SU, simprocAttr, hSl, hSt, hSm, Nat.le_refl, Bh, Bl, Bi, AQ, BI, E10, E9, E19, E7]
end Go.Proofs.YtppjinmlfcokaaaGreat
