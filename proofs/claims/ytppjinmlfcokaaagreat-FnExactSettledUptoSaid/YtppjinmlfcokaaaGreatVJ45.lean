/-
 Occurs, FreeIn, Atom OF THE REFERENCE, by abstract texts. Conditions: none.
-/
import Derived.Test.YtppjinmlfcokaaaGreatVJ44
import Derived.Test.YtppjinmlfcokaaaGreatVJ41
import Derived.Test.YtppjinmlfcokaaaGreatVPrimW
import Derived.Test.YtppjinmlfcokaaaGreatVJ10
set_option linter.unusedVariables false
set_option linter.unusedSimpArgs false
set_option maxRecDepth 100000
namespace Go.Proofs.YtppjinmlfcokaaaGreat
open Go.RowKit Go.Proofs.YtppjinmlfcokaaaGreat.Av Go.Proofs.YtppjinmlfcokaaaGreat.Ml
open Go.Proofs.YtppjinmlfcokaaaGreat.Av.AVal (av)

theorem Yf (p : Program) (s : ByteArray) (hk : ∀ i, i < p.nodes.length → ∀ k ∈ Aq p.nodes i, (i : Int) < k ∧ k < p.nodes.length) (hn : ∀ n ∈ p.nodes, PN n n.kids.length) (hx : Ac.bulk p.nodes ≤ 4294967296) (hs : s.size ≤ 4294967296) : ∀ (f i : Nat), i < p.nodes.length → p.nodes.length - i ≤ f → Ah Tryz.prog 83 [av p, .int .i64 i, .str s] (.bool (decide (0 < D7 s (Bw p.nodes f i)))) := by
 intro f
 induction f with
 | zero => intro i hi hf; omega
 | succ f ih =>
  intro i hi hf
  have hl := Ai p.nodes
  have e := getD_map av p.nodes i .top hi
  have em := List.getElem_mem hi
  obtain ⟨k3, k13, kb⟩ := hn _ em
  obtain ⟨b1, b2, b3, b4⟩ := Eg hx em
  have hK : Aq p.nodes i = p.nodes[i].kids := by simp [Aq, hi]
  have hg : Bw p.nodes (f + 1) i = .mk p.nodes[i] (p.nodes[i].kids.map fun k => Bw p.nodes f k.toNat) := by rw [Bw, hK]; simp [hi]
  have hks := hk i hi
  rw [hK] at hks
  refine GY.F rfl (by simp; exact ⟨AVal.clean p, BB _, Ad.str _⟩) (Ad.bool _) ?_
  rw [hg]
  clear hg hK
  generalize p.nodes[i] = n at *
  by_cases h3 : n.kind = 3
  ·simp +contextual -dsimp only [↓SD, SU, simprocAttr, GY, Ab, hi, e, As, Ag, h3]
   rw [D7, if_pos h3]
   by_cases hn : n.s = s <;> simp [hn]
  ·simp +contextual -dsimp only [↓SD, SU, simprocAttr, GY, Ab, hi, e, As, Ag, h3]
   intro v7
   have hck : D7 s (.mk n (n.kids.map fun k => Bw p.nodes f k.toNat)) = FK s n 0 ((n.kids.map fun k => Bw p.nodes f k.toNat).drop 0) := by rw [D7, if_neg h3, List.drop_zero]
   refine Am (X := Nat) (fun k => ⟨[(2, .str s), (3, .obj [.sl (p.types.map av), .sl (p.nodes.map av)]), (7, .ptr 7 v7 0 0), (24, .sl (n.kids.map av)), (25, .int .i64 n.kids.length), (26, .int .i64 k)], [(7, ⟨v7, false, 49, 6, [.agg [.int .i64 n.kind, .int .i64 n.pos, .int .i64 n.n, .str n.s, .sl (n.kids.map av), .sl (n.Ae.map av)]]⟩)]⟩) (fun k => k ≤ n.kids.length ∧ D7 s (.mk n (n.kids.map fun k => Bw p.nodes f k.toNat)) = FK s n k ((n.kids.map fun k => Bw p.nodes f k.toNat).drop k)) (fun k => n.kids.length - k) 0 ⟨Nat.zero_le _, hck⟩ (by simp +contextual -dsimp only [↓SD, SU, simprocAttr]) (by simp +contextual -dsimp only [↓SD, SU, simprocAttr]) ?_
   clear hck
   rintro k ⟨hk1, hc⟩
   by_cases hlt : k < n.kids.length
   ·have e2 := getD_map av n.kids k .top hlt
    have hkj := hks _ (List.getElem_mem hlt)
    obtain ⟨m, hm⟩ : ∃ m : Nat, n.kids[k] = m := ⟨n.kids[k].toNat, by omega⟩
    have hd : (n.kids.map fun k => Bw p.nodes f k.toNat).drop k = Bw p.nodes f m :: (n.kids.map fun k => Bw p.nodes f k.toNat).drop (k + 1) := by rw [List.drop_eq_getElem_cons (by simpa using hlt), List.getElem_map, hm, Int.toNat_natCast]
    rw [hm] at e2 hkj
    have C2 := ih m (by omega) (by omega)
    have C1 : n.kind = 13 → ∀ j, k = j + 1 → ∃ (h : j < n.Ae.length), B1 n (j + 1) s = hasName n.Ae[j] s ∧ Ah Tryz.prog 148 [av n.Ae[j], .str s] (.bool (hasName n.Ae[j] s)) := by
     rintro h13 j rfl
     have := k13 h13
     have hl2 : j < n.Ae.length := by omega
     have hm2 := Au (List.getElem_mem hl2)
     exact ⟨hl2, by simp [B1, h13, hl2], N8 n.Ae[j] s (by omega)⟩
    have K : n.kind = 5 ∨ n.kind = 8 ∨ n.kind = 7 ∨ n.kind = 15 ∨ (n.kind = 13 ∧ k = 0) ∨ (n.kind = 13 ∧ ∃ j, k = j + 1) ∨ (¬ n.kind = 5 ∧ ¬ n.kind = 8 ∧ ¬ n.kind = 7 ∧ ¬ n.kind = 15 ∧ ¬ n.kind = 13) := by
     by_cases h : n.kind = 13
     ·rcases k with _ | j
      ·simp [h]
      ·simp [h]
     ·omega
    rw [hd, FK] at hc
    rw [Ag] at C2
    clear hd hm
    generalize Bw p.nodes f m = t at *
    generalize Tr.mk n (n.kids.map fun k => Bw p.nodes f k.toNat) = T at *
    have hC2 : B1 n k s = false → ∃ b, b = decide (0 < D7 s t) ∧ Ah Tryz.prog 83 [.agg [.sl (p.types.map av), .sl (p.nodes.map av)], .int .i64 m, .str s] (.bool b) ∧ (b = true → decide (0 < D7 s T) = true) ∧ (b = false → D7 s T = FK s n (k + 1) ((n.kids.map fun k => Bw p.nodes f k.toNat).drop (k + 1))) := by
     intro hb
     rw [hb, if_neg Bool.false_ne_true] at hc
     refine ⟨_, rfl, C2, fun h => ?_, fun h => ?_⟩
     ·simp only [decide_eq_true_eq] at h ⊢; omega
     ·simp only [decide_eq_false_iff_not] at h; rw [hc, show D7 s t = 0 by omega, Nat.zero_add]
    have hB : B1 n k s = true → D7 s T = FK s n (k + 1) ((n.kids.map fun k => Bw p.nodes f k.toNat).drop (k + 1)) := by
     intro hb
     rw [hb, if_pos rfl, Nat.zero_add] at hc
     exact hc
    clear hc C2
    by_cases hbb : B1 n k s = true
    ·replace hc := hB hbb
     clear hC2 hB
     rcases K with h5 | h5 | h5 | h5 | ⟨h5, rfl⟩ | ⟨h5, j, rfl⟩ | h5
     ·simp [B1, h5] at hbb
      simp +contextual -dsimp only [↓SD, SU, simprocAttr, Ab, hlt, e2, AA, h5, hbb]
      (try refine ⟨by omega, ?_⟩); exact Af.le ⟨k + 1, ⟨⟨hlt, hc⟩, (by first | omega | (simp only; omega))⟩, rfl⟩ (by simp +contextual -dsimp only [↓SD, SU, simprocAttr, Int.natCast_add]) (by simp +contextual -dsimp only [↓SD, SU, simprocAttr])
     ·simp [B1, h5] at hbb
      simp +contextual -dsimp only [↓SD, SU, simprocAttr, Ab, hlt, e2, AA, h5, hbb]
      (try refine ⟨by omega, ?_⟩); exact Af.le ⟨k + 1, ⟨⟨hlt, hc⟩, (by first | omega | (simp only; omega))⟩, rfl⟩ (by simp +contextual -dsimp only [↓SD, SU, simprocAttr, Int.natCast_add]) (by simp +contextual -dsimp only [↓SD, SU, simprocAttr])
     ·simp [B1, h5] at hbb
      obtain ⟨h1, hbb⟩ := hbb
      obtain rfl : k = 1 := by omega
      have hlt1 : (1 : Int) < n.kids.length := by omega
      simp +contextual -dsimp only [↓SD, SU, simprocAttr, Ab, hlt, hlt1, e2, AA, h5, hbb, Int.natCast_one]
      exact Af.le ⟨2, ⟨⟨hlt, hc⟩, (by first | omega | (simp only; omega))⟩, rfl⟩ (by simp +contextual -dsimp only [↓SD, SU, simprocAttr, Int.natCast_add]) (by simp +contextual -dsimp only [↓SD, SU, simprocAttr])
     ·simp [B1, h5] at hbb
      obtain ⟨h1, hbb⟩ := hbb
      obtain rfl : k = 1 := by omega
      have hlt1 : (1 : Int) < n.kids.length := by omega
      simp +contextual -dsimp only [↓SD, SU, simprocAttr, Ab, hlt, hlt1, e2, AA, h5, hbb, Int.natCast_one]
      exact Af.le ⟨2, ⟨⟨hlt, hc⟩, (by first | omega | (simp only; omega))⟩, rfl⟩ (by simp +contextual -dsimp only [↓SD, SU, simprocAttr, Int.natCast_add]) (by simp +contextual -dsimp only [↓SD, SU, simprocAttr])
     ·simp [B1, h5] at hbb
     ·obtain ⟨hlp, hv, C1⟩ := C1 h5 j rfl
      rw [← hv, hbb] at C1
      have hq := getD_map av n.Ae j .top hlp
      have hj : ((j + 1 : Nat) : Int) - 1 = j := by omega
      have hj0 : (0 : Int) < ((j + 1 : Nat) : Int) := by omega
      generalize n.Ae[j] = q at *
      rw [B7] at C1
      simp +contextual -dsimp only [↓SD, SU, simprocAttr, Ab, hlt, e2, AA, h5, hj, hj0, hlp, hq, B7]
      refine ⟨by omega, ?_⟩
      refine Aa _ C1 ?_
      simp +contextual -dsimp only [↓SD, SU, simprocAttr]
      (try refine ⟨by omega, ?_⟩); exact Af.le ⟨j + 1 + 1, ⟨⟨hlt, hc⟩, (by first | omega | (simp only; omega))⟩, rfl⟩ (by simp +contextual -dsimp only [↓SD, SU, simprocAttr, Int.natCast_add]) (by simp +contextual -dsimp only [↓SD, SU, simprocAttr])
     ·simp [B1, h5] at hbb
    ·have hb : B1 n k s = false := by simpa using hbb
     obtain ⟨b, -, C2, hT, hc⟩ := hC2 hb
     clear hB hbb
     rcases K with h5 | h5 | h5 | h5 | ⟨h5, rfl⟩ | ⟨h5, j, rfl⟩ | h5
     ·simp [B1, h5] at hb
      simp +contextual -dsimp only [↓SD, SU, simprocAttr, Ab, hlt, e2, AA, h5, hb]
      refine Aa _ C2 ?_
      cases b with
      | true => simp +contextual -dsimp only [↓SD, SU, simprocAttr, hT]
      | false =>
       replace hc := hc rfl
       simp +contextual -dsimp only [↓SD, SU, simprocAttr]
       (try refine ⟨by omega, ?_⟩); exact Af.le ⟨k + 1, ⟨⟨hlt, hc⟩, (by first | omega | (simp only; omega))⟩, rfl⟩ (by simp +contextual -dsimp only [↓SD, SU, simprocAttr, Int.natCast_add]) (by simp +contextual -dsimp only [↓SD, SU, simprocAttr])
     ·simp [B1, h5] at hb
      simp +contextual -dsimp only [↓SD, SU, simprocAttr, Ab, hlt, e2, AA, h5, hb]
      refine Aa _ C2 ?_
      cases b with
      | true => simp +contextual -dsimp only [↓SD, SU, simprocAttr, hT]
      | false =>
       replace hc := hc rfl
       simp +contextual -dsimp only [↓SD, SU, simprocAttr]
       (try refine ⟨by omega, ?_⟩); exact Af.le ⟨k + 1, ⟨⟨hlt, hc⟩, (by first | omega | (simp only; omega))⟩, rfl⟩ (by simp +contextual -dsimp only [↓SD, SU, simprocAttr, Int.natCast_add]) (by simp +contextual -dsimp only [↓SD, SU, simprocAttr])
     ·by_cases h1 : k = 1
      ·subst h1
       simp [B1, h5] at hb
       have hlt1 : (1 : Int) < n.kids.length := by omega
       simp +contextual -dsimp only [↓SD, SU, simprocAttr, Ab, hlt, hlt1, e2, AA, h5, hb, Int.natCast_one]
       refine Aa _ C2 ?_
       cases b with
       | true => simp +contextual -dsimp only [↓SD, SU, simprocAttr, hT]
       | false =>
        replace hc := hc rfl
        simp +contextual -dsimp only [↓SD, SU, simprocAttr]
        (try refine ⟨by omega, ?_⟩); exact Af.le ⟨2, ⟨⟨hlt, hc⟩, (by first | omega | (simp only; omega))⟩, rfl⟩ (by simp +contextual -dsimp only [↓SD, SU, simprocAttr, Int.natCast_add]) (by simp +contextual -dsimp only [↓SD, SU, simprocAttr])
      ·have h1' : ¬ (k : Int) = 1 := by omega
       simp +contextual -dsimp only [↓SD, SU, simprocAttr, Ab, hlt, e2, AA, h5, h1']
       refine Aa _ C2 ?_
       cases b with
       | true => simp +contextual -dsimp only [↓SD, SU, simprocAttr, hT]
       | false =>
        replace hc := hc rfl
        simp +contextual -dsimp only [↓SD, SU, simprocAttr]
        (try refine ⟨by omega, ?_⟩); exact Af.le ⟨k + 1, ⟨⟨hlt, hc⟩, (by first | omega | (simp only; omega))⟩, rfl⟩ (by simp +contextual -dsimp only [↓SD, SU, simprocAttr, Int.natCast_add]) (by simp +contextual -dsimp only [↓SD, SU, simprocAttr])
     ·by_cases h1 : k = 1
      ·subst h1
       simp [B1, h5] at hb
       have hlt1 : (1 : Int) < n.kids.length := by omega
       simp +contextual -dsimp only [↓SD, SU, simprocAttr, Ab, hlt, hlt1, e2, AA, h5, hb, Int.natCast_one]
       refine Aa _ C2 ?_
       cases b with
       | true => simp +contextual -dsimp only [↓SD, SU, simprocAttr, hT]
       | false =>
        replace hc := hc rfl
        simp +contextual -dsimp only [↓SD, SU, simprocAttr]
        (try refine ⟨by omega, ?_⟩); exact Af.le ⟨2, ⟨⟨hlt, hc⟩, (by first | omega | (simp only; omega))⟩, rfl⟩ (by simp +contextual -dsimp only [↓SD, SU, simprocAttr, Int.natCast_add]) (by simp +contextual -dsimp only [↓SD, SU, simprocAttr])
      ·have h1' : ¬ (k : Int) = 1 := by omega
       simp +contextual -dsimp only [↓SD, SU, simprocAttr, Ab, hlt, e2, AA, h5, h1']
       refine Aa _ C2 ?_
       cases b with
       | true => simp +contextual -dsimp only [↓SD, SU, simprocAttr, hT]
       | false =>
        replace hc := hc rfl
        simp +contextual -dsimp only [↓SD, SU, simprocAttr]
        (try refine ⟨by omega, ?_⟩); exact Af.le ⟨k + 1, ⟨⟨hlt, hc⟩, (by first | omega | (simp only; omega))⟩, rfl⟩ (by simp +contextual -dsimp only [↓SD, SU, simprocAttr, Int.natCast_add]) (by simp +contextual -dsimp only [↓SD, SU, simprocAttr])
     ·have hlt1 : (0 : Int) < n.kids.length := by omega
      simp +contextual -dsimp only [↓SD, SU, simprocAttr, Ab, hlt, hlt1, e2, AA, h5, Int.natCast_zero]
      refine Aa _ C2 ?_
      cases b with
      | true => simp +contextual -dsimp only [↓SD, SU, simprocAttr, hT]
      | false =>
       replace hc := hc rfl
       simp +contextual -dsimp only [↓SD, SU, simprocAttr]
       (try refine ⟨by omega, ?_⟩); exact Af.le ⟨1, ⟨⟨hlt, hc⟩, (by first | omega | (simp only; omega))⟩, rfl⟩ (by simp +contextual -dsimp only [↓SD, SU, simprocAttr, Int.natCast_add]) (by simp +contextual -dsimp only [↓SD, SU, simprocAttr])
     ·obtain ⟨hlp, hv, C1⟩ := C1 h5 j rfl
      rw [← hv, hb] at C1
      have hq := getD_map av n.Ae j .top hlp
      have hj : ((j + 1 : Nat) : Int) - 1 = j := by omega
      have hj0 : (0 : Int) < ((j + 1 : Nat) : Int) := by omega
      generalize n.Ae[j] = q at *
      rw [B7] at C1
      simp +contextual -dsimp only [↓SD, SU, simprocAttr, Ab, hlt, e2, AA, h5, hj, hj0, hlp, hq, B7]
      refine ⟨by omega, ?_⟩
      refine Aa _ C1 ?_
      simp +contextual -dsimp only [↓SD, SU, simprocAttr]
      refine Aa _ C2 ?_
      cases b with
      | true => simp +contextual -dsimp only [↓SD, SU, simprocAttr, hT]
      | false =>
       replace hc := hc rfl
       simp +contextual -dsimp only [↓SD, SU, simprocAttr]
       (try refine ⟨by omega, ?_⟩); exact Af.le ⟨j + 1 + 1, ⟨⟨hlt, hc⟩, (by first | omega | (simp only; omega))⟩, rfl⟩ (by simp +contextual -dsimp only [↓SD, SU, simprocAttr, Int.natCast_add]) (by simp +contextual -dsimp only [↓SD, SU, simprocAttr])
     ·obtain ⟨x1, x2, x3, x4, x5⟩ := h5
      simp +contextual -dsimp only [↓SD, SU, simprocAttr, Ab, hlt, e2, AA, x1, x2, x3, x4, x5]
      refine Aa _ C2 ?_
      cases b with
      | true => simp +contextual -dsimp only [↓SD, SU, simprocAttr, hT]
      | false =>
       replace hc := hc rfl
       simp +contextual -dsimp only [↓SD, SU, simprocAttr]
       (try refine ⟨by omega, ?_⟩); exact Af.le ⟨k + 1, ⟨⟨hlt, hc⟩, (by first | omega | (simp only; omega))⟩, rfl⟩ (by simp +contextual -dsimp only [↓SD, SU, simprocAttr, Int.natCast_add]) (by simp +contextual -dsimp only [↓SD, SU, simprocAttr])
   ·obtain rfl : k = n.kids.length := by omega
    rw [List.drop_of_length_le (by simp), FK] at hc
    simp +contextual -dsimp only [↓SD, SU, simprocAttr, Ab, Nat.lt_irrefl]
    rw [hc]; rfl

end Go.Proofs.YtppjinmlfcokaaaGreat
set_option linter.unusedVariables false
set_option linter.unusedSimpArgs false
set_option maxRecDepth 100000
namespace Go.Proofs.YtppjinmlfcokaaaGreat
open Go.RowKit Go.Proofs.YtppjinmlfcokaaaGreat.Av Go.Proofs.YtppjinmlfcokaaaGreat.Ml
open Go.Proofs.YtppjinmlfcokaaaGreat.Av.AVal (av)

def mB (k v : Nat) (stop n : Int) : Hp := [(k, ⟨v, false, 175, 9, [.agg [.An, .An, .An, .int .i64 0, .int .i64 0, .An, .An, .int .i64 stop, .int .i64 n]]⟩)]
def AcQ (s : ByteArray) (a b : Int) : AV :=
 if (FF s a b).2.1 = true then .tup [.agg [.int .i64 4, .int .i64 0, .str (GL (FF s a b).1), .An, .An], .bool true]
 else if (FF s a b).2.2 = true then .tup [.agg [.int .i64 1, .int .i64 (FF s a b).1, .str (bs []), .An, .An], .bool true]
 else .tup [.agg [.int .i64 0, .int .i64 0, .str (bs []), .An, .An], .bool false]
def Agq (v : Nat) (x r : AV) (hp' : Hp) : Prop := r = x ∧ ∃ st n, hp' = mB 60 v st n
theorem P1 (v : Nat) (st n k q : Int) : Bu Tryz.prog 179 [.ptr 60 v 0 0, .int .i64 k, .int .i64 q] (mB 60 v st n) (fun r hp' => r = .tup [.agg [.int .i64 0, .int .i64 0, .str (bs []), .An, .An], .bool false] ∧ hp' = mB 60 v k q) := by
 refine JC.H rfl ?_
 unfold mB
 simp +contextual -dsimp (maxSteps := 2000000) only [↓SD, SU, simprocAttr, JC]
 intro v6
 refine Af.post (mB 60 v k q) ?_
 unfold mB
 simp +contextual -dsimp (maxSteps := 2000000) only [↓SD, SU, simprocAttr]
theorem Yi (b : Bool) : Ah Tryz.prog 185 [.bool b] (.agg [.int .i64 4, .int .i64 0, .str (if b = true then GL 1 else GL 0), .An, .An]) := by
 refine JD.F rfl (by simp; exact Ad.bool _) (Ad.agg (by simp; exact ⟨BB _, BB _, Ad.str _, Ad.An⟩)) ?_
 have t1 : GL 1 = bs [116, 114, 117, 101] := rfl
 have t0 : GL 0 = bs [102, 97, 108, 115, 101] := rfl
 cases b <;> (simp +contextual -dsimp (maxSteps := 2000000) only [↓SD, SU, simprocAttr, JD, t1, t0])
set_option maxHeartbeats 4000000 in
theorem Yh (v : Nat) (s : ByteArray) (a b : Int) (ha : I64 a) (hb : I64 b) (hs : opsL.any (fun x => decide (s = x)) = true) (h94 : ¬ s = bs [94]) : Bu Tryz.prog 147 [.ptr 60 v 0 0, .str s, .agg [.int .i64 1, .int .i64 a, .str (bs []), .An, .An], .agg [.int .i64 1, .int .i64 b, .str (bs []), .An, .An]] (mB 60 v 0 0) (Agq v (AcQ s a b)) := by
 refine B8.H rfl ?_
 have C1 := Kd a b ha hb
 have C2 := Us a b ha hb
 have C3 := Uu a b ha hb
 have C4 := Uw a b ha hb
 have C5 := Ut a b ha hb
 have T := fun x : Bool => Yi x
 have E := eq_false h94
 unfold AcQ FF mB
 by_cases h0 : s = bs [43]
 ·have E0 := eq_true h0
  simp +contextual -dsimp (maxSteps := 2000000) only [↓SD, SU, simprocAttr, B8, E, E0]
  intro v8
  refine Aa _ C1 ?_
  simp +contextual -dsimp (maxSteps := 2000000) only [↓SD, SU, simprocAttr, E, E0]
  refine Af.post (mB 60 v 0 0) ?_
  unfold mB
  simp +contextual -dsimp (maxSteps := 2000000) only [↓SD, SU, simprocAttr]
  exact ⟨rfl, 0, 0, rfl⟩
 have E0 := eq_false h0
 by_cases h1 : s = bs [45]
 ·have E1 := eq_true h1
  simp +contextual -dsimp (maxSteps := 2000000) only [↓SD, SU, simprocAttr, B8, E, E0, E1]
  intro v8
  refine Aa _ C2 ?_
  simp +contextual -dsimp (maxSteps := 2000000) only [↓SD, SU, simprocAttr, E, E0, E1]
  refine Af.post (mB 60 v 0 0) ?_
  unfold mB
  simp +contextual -dsimp (maxSteps := 2000000) only [↓SD, SU, simprocAttr]
  exact ⟨rfl, 0, 0, rfl⟩
 have E1 := eq_false h1
 by_cases h2 : s = bs [42]
 ·have E2 := eq_true h2
  simp +contextual -dsimp (maxSteps := 2000000) only [↓SD, SU, simprocAttr, B8, E, E0, E1, E2]
  intro v8
  refine Aa _ C3 ?_
  simp +contextual -dsimp (maxSteps := 2000000) only [↓SD, SU, simprocAttr, E, E0, E1, E2]
  refine Af.post (mB 60 v 0 0) ?_
  unfold mB
  simp +contextual -dsimp (maxSteps := 2000000) only [↓SD, SU, simprocAttr]
  exact ⟨rfl, 0, 0, rfl⟩
 have E2 := eq_false h2
 by_cases h3 : s = bs [47]
 ·have E3 := eq_true h3
  simp +contextual -dsimp (maxSteps := 2000000) only [↓SD, SU, simprocAttr, B8, E, E0, E1, E2, E3]
  intro v8
  refine Aa _ C4 ?_
  unfold Wz
  by_cases hz : wr b = 0
  ·simp +contextual -dsimp (maxSteps := 2000000) only [↓SD, SU, simprocAttr, E, E0, E1, E2, E3, hz]
   refine Bx [60] (P1 v 0 0 2 (-2)) (by simp +contextual -dsimp only [↓SD, SU, simprocAttr, mB]) ?_
   rintro r hp' ⟨rfl, rfl⟩
   unfold mB
   simp +contextual -dsimp (maxSteps := 2000000) only [↓SD, SU, simprocAttr]
   refine Af.post (mB 60 v 2 (-2)) ?_
   unfold mB
   simp +contextual -dsimp (maxSteps := 2000000) only [↓SD, SU, simprocAttr]
   exact ⟨by simp [hz], 2, -2, rfl⟩
  ·simp +contextual -dsimp (maxSteps := 2000000) only [↓SD, SU, simprocAttr, E, E0, E1, E2, E3, hz]
   refine Af.post (mB 60 v 0 0) ?_
   unfold mB
   simp +contextual -dsimp (maxSteps := 2000000) only [↓SD, SU, simprocAttr]
   exact ⟨rfl, 0, 0, rfl⟩
 have E3 := eq_false h3
 by_cases h4 : s = bs [37]
 ·have E4 := eq_true h4
  simp +contextual -dsimp (maxSteps := 2000000) only [↓SD, SU, simprocAttr, B8, E, E0, E1, E2, E3, E4]
  intro v8
  refine Aa _ C5 ?_
  unfold UZ
  by_cases hz : wr b = 0
  ·simp +contextual -dsimp (maxSteps := 2000000) only [↓SD, SU, simprocAttr, E, E0, E1, E2, E3, E4, hz]
   refine Bx [60] (P1 v 0 0 2 (-2)) (by simp +contextual -dsimp only [↓SD, SU, simprocAttr, mB]) ?_
   rintro r hp' ⟨rfl, rfl⟩
   unfold mB
   simp +contextual -dsimp (maxSteps := 2000000) only [↓SD, SU, simprocAttr]
   refine Af.post (mB 60 v 2 (-2)) ?_
   unfold mB
   simp +contextual -dsimp (maxSteps := 2000000) only [↓SD, SU, simprocAttr]
   exact ⟨by simp [hz], 2, -2, rfl⟩
  ·simp +contextual -dsimp (maxSteps := 2000000) only [↓SD, SU, simprocAttr, E, E0, E1, E2, E3, E4, hz]
   refine Af.post (mB 60 v 0 0) ?_
   unfold mB
   simp +contextual -dsimp (maxSteps := 2000000) only [↓SD, SU, simprocAttr]
   exact ⟨rfl, 0, 0, rfl⟩
 have E4 := eq_false h4
 by_cases h5 : s = bs [61]
 ·have E5 := eq_true h5
  simp +contextual -dsimp (maxSteps := 2000000) only [↓SD, SU, simprocAttr, B8, E, E0, E1, E2, E3, E4, E5]
  intro v8
  refine Aa _ (T _) ?_
  simp +contextual -dsimp (maxSteps := 2000000) only [↓SD, SU, simprocAttr, E, E0, E1, E2, E3, E4, E5]
  refine Af.post (mB 60 v 0 0) ?_
  unfold mB
  simp +contextual -dsimp (maxSteps := 2000000) only [↓SD, SU, simprocAttr]
  exact ⟨by split <;> simp_all, 0, 0, rfl⟩
 have E5 := eq_false h5
 by_cases h6 : s = bs [60, 62]
 ·have E6 := eq_true h6
  simp +contextual -dsimp (maxSteps := 2000000) only [↓SD, SU, simprocAttr, B8, E, E0, E1, E2, E3, E4, E5, E6]
  intro v8
  refine Aa _ (T _) ?_
  simp +contextual -dsimp (maxSteps := 2000000) only [↓SD, SU, simprocAttr, E, E0, E1, E2, E3, E4, E5, E6]
  refine Af.post (mB 60 v 0 0) ?_
  unfold mB
  simp +contextual -dsimp (maxSteps := 2000000) only [↓SD, SU, simprocAttr]
  exact ⟨by split <;> simp_all, 0, 0, rfl⟩
 have E6 := eq_false h6
 by_cases h7 : s = bs [60]
 ·have E7 := eq_true h7
  simp +contextual -dsimp (maxSteps := 2000000) only [↓SD, SU, simprocAttr, B8, E, E0, E1, E2, E3, E4, E5, E6, E7]
  intro v8
  refine Aa _ (T _) ?_
  simp +contextual -dsimp (maxSteps := 2000000) only [↓SD, SU, simprocAttr, E, E0, E1, E2, E3, E4, E5, E6, E7]
  refine Af.post (mB 60 v 0 0) ?_
  unfold mB
  simp +contextual -dsimp (maxSteps := 2000000) only [↓SD, SU, simprocAttr]
  exact ⟨by split <;> simp_all, 0, 0, rfl⟩
 have E7 := eq_false h7
 by_cases h8 : s = bs [60, 61]
 ·have E8 := eq_true h8
  simp +contextual -dsimp (maxSteps := 2000000) only [↓SD, SU, simprocAttr, B8, E, E0, E1, E2, E3, E4, E5, E6, E7, E8]
  intro v8
  refine Aa _ (T _) ?_
  simp +contextual -dsimp (maxSteps := 2000000) only [↓SD, SU, simprocAttr, E, E0, E1, E2, E3, E4, E5, E6, E7, E8]
  refine Af.post (mB 60 v 0 0) ?_
  unfold mB
  simp +contextual -dsimp (maxSteps := 2000000) only [↓SD, SU, simprocAttr]
  exact ⟨by split <;> simp_all, 0, 0, rfl⟩
 have E8 := eq_false h8
 exfalso
 simp only [opsL, List.any_cons, List.any_nil, Bool.or_eq_true, decide_eq_true_eq] at hs
 simp_all
end Go.Proofs.YtppjinmlfcokaaaGreat
