/-
 CONSTANTS PUT FOR NAMES, by the reference's abstract texts: l16Put, l16Bare, l16Spread, l16Program. Conditions: none.
-/
import Derived.Test.YtppjinmlfcokaaaGreatVJ26
import Derived.Test.YtppjinmlfcokaaaGreatVLayS
import Derived.Test.YtppjinmlfcokaaaGreatVJ41
import Derived.Test.YtppjinmlfcokaaaGreatVPgmW4
set_option linter.unusedVariables false
set_option linter.unusedSimpArgs false
set_option maxRecDepth 100000
namespace Go.Proofs.YtppjinmlfcokaaaGreat
open Go.RowKit Go.Proofs.YtppjinmlfcokaaaGreat.Av Go.Proofs.YtppjinmlfcokaaaGreat.Ml
open Go.Proofs.YtppjinmlfcokaaaGreat.Av.AVal (av)

theorem Acx (t : Sub) : List.drop 7 (av t).cells = [] := List.drop_eq_nil_of_le (by rw [Bh]; exact Nat.le_refl _)
theorem UY {s : ByteArray} {a n : Node} {ks : List Tr} {j : Nat} (h : j < ks.length) : BG s a n 0 (ks.take (j + 1)) = BG s a n 0 (ks.take j) ++ [if B1 n j s = true then ks[j] else De s a ks[j]] := by
 have key : ∀ (l : List Tr) (t : Tr) (i : Nat), BG s a n i (l ++ [t]) = BG s a n i l ++ [if B1 n (i + l.length) s = true then t else De s a t] := by
  intro l
  induction l with
  | nil => intro t i; simp [BG]
  | cons x r ih => intro t i; rw [List.cons_append, BG, BG, ih, List.cons_append, List.length_cons, show i + 1 + r.length = i + (r.length + 1) by omega]
 have ht : (ks.take j).length = j := by simp; omega
 rw [List.take_succ_eq_append_getElem h, key, ht, Nat.zero_add]
set_option maxHeartbeats 4000000 in
theorem AbK (s : ByteArray) (hs : s.size ≤ 4294967296) (a : Node) : ∀ t : Tr, t.rk → t.size ≤ 4294967296 → Ah Tryz.prog 88 [av (Sub.mk t), .str s, av a] (av (Sub.mk (De s a t))) := by
 refine Tr.ind fun n ks ih hrk hsz => ?_
 rw [Tr.rk] at hrk
 rw [Tr.size] at hsz
 have hkl := Cy ks
 have hkm : ((ks.map Sub.mk).map (av : Sub → AV)).length = ks.length := by simp
 have hfin : De s a (.mk n ks) = if n.kind = 3 ∧ n.s = s then .mk { a with pos := n.pos } [] else .mk n (BG s a n 0 ks) := by
  rw [De]
  by_cases h3 : n.kind = 3
  ·have hks : ks = [] := List.eq_nil_of_length_eq_zero (hrk.1.1 (.inr (.inr (.inl h3))))
   subst hks
   by_cases hn : n.s = s
   ·rw [if_pos h3, if_pos hn, if_pos ⟨h3, hn⟩]
   ·rw [if_pos h3, if_neg hn, if_neg (fun h => hn h.2), BG]
  ·rw [if_neg h3, if_neg (fun h => h3 h.1)]
 rw [hfin]
 have hcase : (n.kind = 3 ∧ n.s = s) ∨ (n.kind = 3 ∧ ¬ n.s = s) ∨ ¬ n.kind = 3 := by
  by_cases h3 : n.kind = 3
  ·by_cases hn : n.s = s
   ·exact .inl ⟨h3, hn⟩
   ·exact .inr (.inl ⟨h3, hn⟩)
  ·exact .inr (.inr h3)
 rcases hcase with ⟨h3, hn⟩ | ⟨h3, hn⟩ | h3
 ·rw [if_pos ⟨h3, hn⟩]
  refine Eo (r := .agg [.int .i64 a.kind, .int .i64 n.pos, .int .i64 a.n, .str a.s, .sl (a.kids.map av), .sl (a.Ae.map av), .An]) (DZ.F rfl (by simp; exact ⟨AVal.clean _, Ad.str _, AVal.clean _⟩) (Ad.agg (by simp; exact ⟨BB _, BB _, BB _, Ad.str _, Ak _, Ak _, Ad.An⟩)) ?_) (fun S w v h => by
   have := Av.VR.LY (off := 6) (y := .sl []) h rfl (fun x u hx hu => by cases hx; cases hu; exact .sl0 none 0 (Nat.zero_le _))
   rw [Bb]; exact this)
  have E3 := eq_true h3
  have En := eq_true hn
  simp +contextual -dsimp (maxSteps := 2000000) only [↓SD, SU, simprocAttr, DZ, Bb, As, E3, En]
  trace_state
 case' inr.inl =>
  rw [if_neg (fun h => hn h.2)]
  refine DZ.F rfl (by simp; exact ⟨AVal.clean _, Ad.str _, AVal.clean _⟩) (AVal.clean _) ?_
  have E3 := eq_true h3
  simp +contextual -dsimp (maxSteps := 2000000) only [↓SD, SU, simprocAttr, DZ, Bb, As, E3, hn, hkm]
  intro v5 v6 v7
  refine DU (X := Nat × Nat) (fun x => ⟨[(1, .str s), (3, .obj [.int .i64 n.kind, .int .i64 n.pos, .int .i64 n.n, .str n.s, .sl (n.kids.map av), .sl (n.Ae.map av), .sl ((ks.map Sub.mk).map av)]), (5, .ptr 5 v5 0 0), (6, .ptr 6 v6 0 0), (7, .ptr 7 v7 0 0), (32, .int .i64 ks.length), (33, .int .i64 x.1)], [(5, ⟨v5, false, 49, 6, [.agg [.int .i64 a.kind, .int .i64 a.pos, .int .i64 a.n, .str a.s, .sl (a.kids.map av), .sl (a.Ae.map av)]]⟩), (6, ⟨v6, false, 52, 7, [.agg [.int .i64 0, .int .i64 0, .int .i64 0, .str (bs []), .An, .An, .An]]⟩), (7, ⟨v7, false, 52, 7, [.agg [.int .i64 n.kind, .int .i64 n.pos, .int .i64 n.n, .str n.s, .sl (n.kids.map av), .sl (n.Ae.map av), .row 55 x.2 x.1]]⟩), (55, ⟨x.2, false, 52, 7, ((BG s a n 0 (ks.take x.1)).map Sub.mk).map av⟩)]⟩) (fun x => x.1 ≤ ks.length) (fun x => ks.length - x.1) ?_ ?_
  ·refine Af.FC 7 0 6 55 52 7 rfl rfl Nat.zero_lt_one rfl (by decide) fun z => ?_
   exact Af.le ⟨(0, z), Nat.zero_le _, rfl⟩ (by simp +contextual -dsimp only [↓SD, SU, simprocAttr]) (by simp +contextual -dsimp only [↓SD, SU, simprocAttr, List.take_zero, BG, List.map_nil])
 case' inr.inr =>
  rw [if_neg (fun h => h3 h.1)]
  refine DZ.F rfl (by simp; exact ⟨AVal.clean _, Ad.str _, AVal.clean _⟩) (AVal.clean _) ?_
  simp +contextual -dsimp (maxSteps := 2000000) only [↓SD, SU, simprocAttr, DZ, Bb, As, h3, hkm]
  intro v5 v6 v7
  refine DU (X := Nat × Nat) (fun x => ⟨[(1, .str s), (3, .obj [.int .i64 n.kind, .int .i64 n.pos, .int .i64 n.n, .str n.s, .sl (n.kids.map av), .sl (n.Ae.map av), .sl ((ks.map Sub.mk).map av)]), (5, .ptr 5 v5 0 0), (6, .ptr 6 v6 0 0), (7, .ptr 7 v7 0 0), (32, .int .i64 ks.length), (33, .int .i64 x.1)], [(5, ⟨v5, false, 49, 6, [.agg [.int .i64 a.kind, .int .i64 a.pos, .int .i64 a.n, .str a.s, .sl (a.kids.map av), .sl (a.Ae.map av)]]⟩), (6, ⟨v6, false, 52, 7, [.agg [.int .i64 0, .int .i64 0, .int .i64 0, .str (bs []), .An, .An, .An]]⟩), (7, ⟨v7, false, 52, 7, [.agg [.int .i64 n.kind, .int .i64 n.pos, .int .i64 n.n, .str n.s, .sl (n.kids.map av), .sl (n.Ae.map av), .row 55 x.2 x.1]]⟩), (55, ⟨x.2, false, 52, 7, ((BG s a n 0 (ks.take x.1)).map Sub.mk).map av⟩)]⟩) (fun x => x.1 ≤ ks.length) (fun x => ks.length - x.1) ?_ ?_
  ·refine Af.FC 7 0 6 55 52 7 rfl rfl Nat.zero_lt_one rfl (by decide) fun z => ?_
   exact Af.le ⟨(0, z), Nat.zero_le _, rfl⟩ (by simp +contextual -dsimp only [↓SD, SU, simprocAttr]) (by simp +contextual -dsimp only [↓SD, SU, simprocAttr, List.take_zero, BG, List.map_nil])
 all_goals
  rintro ⟨j, z⟩ hj
  dsimp only at hj ⊢
  by_cases hlt : j < ks.length
  ·have hlt3 : j < (ks.map Sub.mk).length := by rw [List.length_map]; exact hlt
   have e1 := getD_map av (ks.map Sub.mk) j .top hlt3
   rw [List.getElem_map] at e1
   have hm := List.getElem_mem hlt
   have hkr := Ch.1 hrk.2 _ hm
   have hks := Cq hm
   have CB := VQ n j s hrk.1.2.2.2.2.2.2 (by omega) (fun h => by have := hrk.1.2.2.1 h; omega)
   rw [As] at CB
   have CR := ih ks[j] hm hkr (by omega)
   rw [As] at CR
   have hst := UY (s := s) (a := a) (n := n) hlt
   have hS : ((BG s a n 0 (ks.take (j + 1))).map Sub.mk).map (av : Sub → AV) = ((BG s a n 0 (ks.take j)).map Sub.mk).map av ++ [av (Sub.mk (if B1 n j s = true then ks[j] else De s a ks[j]))] := by
    rw [hst, List.map_append, List.map_append]; rfl
   have hSl : (((BG s a n 0 (ks.take j)).map Sub.mk).map (av : Sub → AV)).length = j := by simp [DR]; omega
   generalize ((BG s a n 0 (ks.take j)).map Sub.mk).map (av : Sub → AV) = SS at *
   generalize De s a ks[j] = t' at *
   generalize ks[j] = t at *
   have hSt : List.take j SS = SS := List.take_of_length_le (by omega)
   cases hb : B1 n j s with
   | true =>
    rw [hb] at CB hS
    simp only [if_true] at hS
    simp +contextual -dsimp (maxSteps := 2000000) only [↓SD, SU, simprocAttr, hlt, hkm, e1, Bh, Bl, Bi, AQ, BI]
    intro v9
    refine Aa _ CB ?_
    simp +contextual -dsimp (maxSteps := 2000000) only [↓SD, SU, simprocAttr, Bh, Bl, Bi, AQ, BI, GV, hSl, hSt]
    refine ⟨⟨by omega, by unfold maxLen; omega⟩, fun z' => ⟨by omega, Af.le ⟨(j + 1, z'), ⟨hlt, (by first | omega | (simp only; omega))⟩, rfl⟩ (by simp +contextual -dsimp only [↓SD, SU, simprocAttr, Int.natCast_add]) (by simp +contextual -dsimp only [↓SD, SU, simprocAttr, hS])⟩⟩
   | false =>
    rw [hb] at CB hS
    simp only [Bool.false_eq_true, if_false] at hS
    simp +contextual -dsimp (maxSteps := 2000000) only [↓SD, SU, simprocAttr, hlt, hkm, e1, Bh, Bl, Bi, AQ, BI]
    intro v9
    refine Aa _ CB ?_
    simp +contextual -dsimp (maxSteps := 2000000) only [↓SD, SU, simprocAttr, Bh, Bl, Bi, AQ, BI, GV, hSl, hSt]
    refine Aa _ CR ?_
    simp +contextual -dsimp (maxSteps := 2000000) only [↓SD, SU, simprocAttr, Acx, Bh, Bl, Bi, AQ, BI, GV, hSl, hSt]
    refine ⟨⟨by omega, by unfold maxLen; omega⟩, fun z' => ⟨by omega, Af.le ⟨(j + 1, z'), ⟨hlt, (by first | omega | (simp only; omega))⟩, rfl⟩ (by simp +contextual -dsimp only [↓SD, SU, simprocAttr, Int.natCast_add]) (by simp +contextual -dsimp only [↓SD, SU, simprocAttr, hS])⟩⟩
  ·obtain rfl : j = ks.length := by omega
   rw [List.take_length]
   have hSl : (((BG s a n 0 ks).map Sub.mk).map (av : Sub → AV)).length = ks.length := by simp [DR]
   have hSt : List.take ks.length (((BG s a n 0 ks).map Sub.mk).map (av : Sub → AV)) = ((BG s a n 0 ks).map Sub.mk).map av := List.take_of_length_le (by omega)
   have hSm : ∀ hp, (((BG s a n 0 ks).map Sub.mk).map (av : Sub → AV)).map (AV.pur hp) = ((BG s a n 0 ks).map Sub.mk).map av := fun hp => AB _ hp
   simp +contextual -dsimp (maxSteps := 2000000) only [↓SD, SU, simprocAttr, Nat.lt_irrefl, hSl, hSt, hSm]
end Go.Proofs.YtppjinmlfcokaaaGreat
set_option linter.unusedVariables false
set_option linter.unusedSimpArgs false
set_option maxRecDepth 100000
namespace Go.Proofs.YtppjinmlfcokaaaGreat
open Go.RowKit Go.Proofs.YtppjinmlfcokaaaGreat.Av Go.Proofs.YtppjinmlfcokaaaGreat.Ml
open Go.Proofs.YtppjinmlfcokaaaGreat.Av.AVal (av)

def KR (n : Node) (m : Nat) : Node := { n with kids := List.replicate m 0 }
theorem P0 (n : Node) (ks : List Tr) (hl : ks.length ≤ 4294967296) : Ah Tryz.prog 84 [av (Sub.mk (.mk n ks))] (av (KR n ks.length)) := by
 refine Jz.F rfl (by simp; exact AVal.clean _) (AVal.clean _) ?_
 have hkm : ((ks.map Sub.mk).map (av : Sub → AV)).length = ks.length := by simp
 have hr : (List.replicate ks.length (0 : Int)).map (av : Int → AV) = List.replicate ks.length (.int .i64 0) := by rw [List.map_replicate]; rfl
 have hm : ∀ hp, (List.replicate ks.length (AV.int .i64 0)).map (AV.pur hp) = List.replicate ks.length (.int .i64 0) := fun hp => by rw [List.map_replicate]; rfl
 have ht : List.take ks.length (List.replicate ks.length (AV.int .i64 0)) = List.replicate ks.length (.int .i64 0) := List.take_of_length_le (by simp)
 unfold KR
 rw [As, hr]
 simp +contextual -dsimp (maxSteps := 2000000) only [↓SD, SU, simprocAttr, Jz, Bb, hkm, hm, ht, List.length_replicate, Nat.le_refl]
 omega
theorem N7 (n : Node) (m : Nat) (hl : m ≤ 4294967296) : Ah Tryz.prog 85 [av (KR n m)] (.bool (CG n m)) := by
 have C := Yd (KR n m) (by simp [KR]; exact hl)
 have e : CG (KR n m) (KR n m).kids.length = CG n m := by
  rw [show (KR n m).kids.length = m from List.length_replicate]; rfl
 rw [e] at C
 exact C
set_option maxHeartbeats 4000000 in
theorem TI : ∀ t : Tr, t.rk → t.size ≤ 600 → Ah Tryz.prog 44 [av (Sub.mk t)] (av (Sub.mk (AZ AP t))) := by
 refine Tr.ind fun n ks ih hrk hsz => ?_
 refine H9.F rfl (by simp; exact AVal.clean _) (AVal.clean _) ?_
 rw [Tr.rk] at hrk
 rw [Tr.size] at hsz
 have hkl := Cy ks
 have hkm : ((ks.map Sub.mk).map (av : Sub → AV)).length = ks.length := by simp
 have hall := fun k hk => KX (R := AP) (fun t h => Gk h) k (Ch.1 hrk.2 k hk)
 simp +contextual -dsimp (maxSteps := 2000000) only [↓SD, SU, simprocAttr, H9, Bb, hkm]
 intro v2 v3
 refine DU (X := Nat × Nat) (fun x => ⟨[(1, .obj [.int .i64 n.kind, .int .i64 n.pos, .int .i64 n.n, .str n.s, .sl (n.kids.map av), .sl (n.Ae.map av), .sl ((ks.map Sub.mk).map av)]), (2, .ptr 2 v2 0 0), (3, .ptr 3 v3 0 0), (10, .int .i64 ks.length), (11, .int .i64 x.1)], [(2, ⟨v2, false, 52, 7, [.agg [.int .i64 0, .int .i64 0, .int .i64 0, .str (bs []), .An, .An, .An]]⟩), (3, ⟨v3, false, 52, 7, [.agg [.int .i64 n.kind, .int .i64 n.pos, .int .i64 n.n, .str n.s, .sl (n.kids.map av), .sl (n.Ae.map av), .row 23 x.2 x.1]]⟩), (23, ⟨x.2, false, 52, 7, (((ks.take x.1).map (AZ AP)).map Sub.mk).map av⟩)]⟩) (fun x => x.1 ≤ ks.length) (fun x => ks.length - x.1) ?_ ?_
 ·refine Af.FC 3 0 6 23 52 7 rfl rfl Nat.zero_lt_one rfl (by decide) fun z => ?_
  exact Af.le ⟨(0, z), Nat.zero_le _, rfl⟩ (by simp +contextual -dsimp only [↓SD, SU, simprocAttr]) (by simp +contextual -dsimp only [↓SD, SU, simprocAttr, List.take_zero, List.map_nil])
 rintro ⟨j, z⟩ hj
 dsimp only at hj ⊢
 by_cases hlt : j < ks.length
 ·have hlt3 : j < (ks.map Sub.mk).length := by rw [List.length_map]; exact hlt
  have e1 := getD_map av (ks.map Sub.mk) j .top hlt3
  rw [List.getElem_map] at e1
  have hm := List.getElem_mem hlt
  have hkr := Ch.1 hrk.2 _ hm
  have hks := Cq hm
  have CR := ih ks[j] hm hkr (by omega)
  have hS : (((ks.take (j + 1)).map (AZ AP)).map Sub.mk).map (av : Sub → AV) = (((ks.take j).map (AZ AP)).map Sub.mk).map av ++ [av (Sub.mk (AZ AP ks[j]))] := by
   rw [List.take_succ_eq_append_getElem hlt, List.map_append, List.map_append, List.map_append]; rfl
  have hSl : ((((ks.take j).map (AZ AP)).map Sub.mk).map (av : Sub → AV)).length = j := by simp; omega
  generalize (((ks.take j).map (AZ AP)).map Sub.mk).map (av : Sub → AV) = SS at *
  generalize AZ AP ks[j] = t' at *
  generalize ks[j] = t at *
  have hSt : List.take j SS = SS := List.take_of_length_le (by omega)
  simp +contextual -dsimp (maxSteps := 2000000) only [↓SD, SU, simprocAttr, hlt, hkm, e1, Bh, Bl, Bi, AQ, BI]
  refine Aa _ CR ?_
  simp +contextual -dsimp (maxSteps := 2000000) only [↓SD, SU, simprocAttr, Bh, Bl, Bi, AQ, BI, GV, hSl, hSt]
  refine ⟨⟨by omega, by unfold maxLen; omega⟩, fun z' => ⟨by omega, Af.le ⟨(j + 1, z'), ⟨hlt, (by first | omega | (simp only; omega))⟩, rfl⟩ (by simp +contextual -dsimp only [↓SD, SU, simprocAttr, Int.natCast_add]) (by simp +contextual -dsimp only [↓SD, SU, simprocAttr, hS])⟩⟩
 ·obtain rfl : j = ks.length := by omega
  rw [List.take_length]
  have hSl : (((ks.map (AZ AP)).map Sub.mk).map (av : Sub → AV)).length = ks.length := by simp
  have hSt : List.take ks.length (((ks.map (AZ AP)).map Sub.mk).map (av : Sub → AV)) = ((ks.map (AZ AP)).map Sub.mk).map av := List.take_of_length_le (by omega)
  have hSm : ∀ hp, (((ks.map (AZ AP)).map Sub.mk).map (av : Sub → AV)).map (AV.pur hp) = ((ks.map (AZ AP)).map Sub.mk).map av := fun hp => AB _ hp
  rw [KY]
  have hll : (ks.map (AZ AP)).length = ks.length := List.length_map _
  have hall2 : ∀ k ∈ ks.map (AZ AP), k.rk ∧ k.size ≤ 600 := fun k hk => by
   obtain ⟨q, hq, rfl⟩ := List.mem_map.1 hk
   have h1 := hall q hq
   have h2 := Cq hq
   exact ⟨h1.1, by omega⟩
  simp +contextual -dsimp (maxSteps := 2000000) only [↓SD, SU, simprocAttr, Nat.lt_irrefl]
  generalize ks.map (AZ AP) = L at *
  refine EK (Af.frz 23 (Af.XW 3 (b := ⟨v3, false, 52, 7, [.agg [.int .i64 n.kind, .int .i64 n.pos, .int .i64 n.n, .str n.s, .sl (n.kids.map av), .sl (n.Ae.map av), .row 23 z ks.length]]⟩) rfl (Af.here ?_)))
  by_cases h7 : n.kind = 7
  ·have hl2 : L.length = 2 := by rw [hll]; exact hrk.1.2.1 h7
   obtain ⟨a, b, rfl⟩ : ∃ a b, L = [a, b] := by
    match L, hl2 with
    | [a, b], _ => exact ⟨a, b, rfl⟩
   obtain ⟨m, js⟩ := a
   have ha := hall2 (.mk m js) (by simp)
   have hb := hall2 b (by simp)
   have E7 := eq_true h7
   have hk2 : ks.length = 2 := by rw [← hll]; exact hl2
   have hjl : js.length ≤ 600 := by have h1 := ha.2; rw [Tr.size] at h1; have := Cy js; omega
   have hjm : ((js.map Sub.mk).map (av : Sub → AV)).length = js.length := by simp
   have hspr : AP (.mk n [.mk m js, b]) = if CG m js.length = true then De n.s m b else .mk n [.mk m js, b] := by
    rw [AP]
    show (if n.kind = 7 ∧ CG m js.length = true then _ else _) = _
    by_cases hp : CG m js.length = true
    ·rw [if_pos ⟨h7, hp⟩, if_pos hp]; rfl
    ·rw [if_neg (fun h => hp h.2), if_neg hp]
   rw [hspr]
   by_cases hj0 : js.length = 0
   ·have hjs := List.eq_nil_of_length_eq_zero hj0
    subst hjs
    have CB := P0 m [] (by simp)
    have CA := N7 m 0 (by omega)
    rw [show ([] : List Tr).length = 0 from rfl] at CB ⊢
    rw [Bb] at CB
    simp only [As, List.map_nil] at CB CA
    have hns : n.s.size ≤ 4294967296 := by have h1 := hrk.1.2.2.2.2.2.1; simp only [Ew] at h1; omega
    have CP := AbK n.s hns m b hb.1 (by omega)
    rw [As] at CP
    cases hp : CG m 0 with
    | true =>
     rw [hp] at CA
     rw [if_pos rfl]
     generalize De n.s m b = R at *
     obtain ⟨rn, rks⟩ := R
     rw [Bb] at CP ⊢
     simp +contextual -dsimp (maxSteps := 2000000) only [↓SD, SU, simprocAttr, hk2, E7, Nat.le_refl, hjm, Bb, Bh, Bl, Bi, AQ, BI]
     refine Aa _ CB ?_
     simp +contextual -dsimp (maxSteps := 2000000) only [↓SD, SU, simprocAttr, hk2, Nat.le_refl, hjm, Bb, Bh, Bl, Bi, AQ, BI]
     refine Aa _ CA ?_
     simp +contextual -dsimp (maxSteps := 2000000) only [↓SD, SU, simprocAttr, hk2, Nat.le_refl, hjm, Bb, Bh, Bl, Bi, AQ, BI]
     refine Aa _ CP ?_
     simp +contextual -dsimp (maxSteps := 2000000) only [↓SD, SU, simprocAttr, hk2, Nat.le_refl, hjm, Bb, Bh, Bl, Bi, AQ, BI]
    | false =>
     rw [hp] at CA
     rw [if_neg (by simp)]
     simp +contextual -dsimp (maxSteps := 2000000) only [↓SD, SU, simprocAttr, hk2, E7, Nat.le_refl, hjm, Bb, Bh, Bl, Bi, AQ, BI]
     refine Aa _ CB ?_
     simp +contextual -dsimp (maxSteps := 2000000) only [↓SD, SU, simprocAttr, hk2, Nat.le_refl, hjm, Bb, Bh, Bl, Bi, AQ, BI]
     refine Aa _ CA ?_
     simp +contextual -dsimp (maxSteps := 2000000) only [↓SD, SU, simprocAttr, hk2, Nat.le_refl, hjm, Bb, Bh, Bl, Bi, AQ, BI]
   ·have hpf : ¬ CG m js.length = true := fun hp => by
     obtain ⟨h1, _⟩ := HE ha.1 (show Es (.mk m js) = true from hp)
     cases h1
     exact hj0 rfl
    have hji : ((js.length : Int) = 0) = False := eq_false (by omega)
    rw [if_neg hpf]
    simp +contextual -dsimp (maxSteps := 2000000) only [↓SD, SU, simprocAttr, hk2, E7, Nat.le_refl, hjm, hji, Bb, Bh, Bl, Bi, AQ, BI]
  ·have E7 := eq_false h7
   have hspr : AP (.mk n L) = .mk n L := by rw [AP, if_neg (fun h => h7 h.1)]
   rw [hspr]
   simp +contextual -dsimp (maxSteps := 2000000) only [↓SD, SU, simprocAttr, hSl, hSt, hSm, E7, Nat.le_refl]
   rw [Bb]
theorem Li (p : Program) (t : Tr) (hx : Ac.bulk p.types ≤ 4294967296) (hsz : t.size ≤ 600) : Ah Tryz.prog 30 [av p, av (Sub.mk t)] (av (⟨p.types, Bz 0 t⟩ : Program)) := by
 refine HI.F rfl (by simp; exact ⟨AVal.clean _, AVal.clean _⟩) (AVal.clean _) ?_
 have CT := VS p.types hx
 have CL := LN t (by omega)
 have hll := Dm t 0
 obtain ⟨n, ks⟩ := t
 generalize Bz 0 (Tr.mk n ks) = L at *
 have hlm : ∀ hp, (L.map (av : Node → AV)).map (AV.pur hp) = L.map av := fun hp => AB _ hp
 have htm : ∀ hp, (p.types.map (av : BF → AV)).map (AV.pur hp) = p.types.map av := fun hp => AB _ hp
 have hLl : (L.map (av : Node → AV)).length = L.length := List.length_map _
 have hbig : ¬ (600 : Int) < (L.length : Int) := by omega
 rw [Ag, Ag, Bb] at *
 simp +contextual -dsimp (maxSteps := 2000000) only [↓SD, SU, simprocAttr, HI]
 intro v4
 refine Aa _ CT ?_
 simp +contextual -dsimp (maxSteps := 2000000) only [↓SD, SU, simprocAttr]
 refine Aa _ CL ?_
 simp +contextual -dsimp (maxSteps := 2000000) only [↓SD, SU, simprocAttr, hlm, htm, hLl, hbig]
 trace_state
theorem X8 {S : Nat → Prop} {w : World} {v : Value} (h : VR S w mu0 v (.agg [.An, .An])) : VR S w mu0 v (av (⟨[], []⟩ : Program)) := by
 rw [Ag]
 have h1 := Av.VR.LY (off := 0) (y := .sl []) h rfl (fun x u hx hu => by cases hx; cases hu; exact .sl0 none 0 (Nat.zero_le _))
 exact Av.VR.LY (off := 1) (y := .sl []) h1 rfl (fun x u hx hu => by cases hx; cases hu; exact .sl0 none 0 (Nat.zero_le _))
theorem QU (p : Program) (hx : Ac.bulk p ≤ 4294967296) : Ah Tryz.prog 19 [av p] (av (Dj AP p)) := by
 obtain ⟨q1, q2, q3, q4⟩ := CD hx
 have C := Du p hx
 rw [Ag] at C
 cases hb : Bv p with
 | false =>
  rw [hb] at C
  have e : Dj AP p = ⟨[], []⟩ := by rw [Dj, if_neg (by rw [hb]; simp)]
  rw [e]
  refine Eo (r := .agg [.An, .An]) (FZ.F rfl (by simp; exact AVal.clean p) (Ad.agg (by simp; exact Ad.An)) ?_) (fun S w v h => X8 h)
  simp +contextual -dsimp (maxSteps := 2000000) only [↓SD, SU, simprocAttr, FZ, Ag]
  intro v2
  refine Aa _ C ?_
  simp +contextual -dsimp (maxSteps := 2000000) only [↓SD, SU, simprocAttr]
 | true =>
  rw [hb] at C
  obtain ⟨f1, f2, f3, f4, f5⟩ := Dk hx hb
  have hk : ∀ i, i < p.nodes.length → ∀ k ∈ Aq p.nodes i, (i : Int) < k ∧ k < p.nodes.length := fun i hi k hk => Ef f3 hi hk
  have G := Nt p hk q2 p.nodes.length 0 (by omega) (by omega)
  rw [show Bw p.nodes p.nodes.length 0 = Al p.nodes 0 from rfl, Ag] at G
  have hT := Nk hx hb
  have hsz := (Fv hx hb).2.2.2.1
  have CS := TI _ hT hsz
  have hR := KX (R := AP) (fun t h => Gk h) _ hT
  have CP := Li p _ q1 (show (AZ AP (Al p.nodes 0)).size ≤ 600 by omega)
  have e : Dj AP p = ⟨p.types, Bz 0 (AZ AP (Al p.nodes 0))⟩ := by rw [Dj, if_pos hb]
  rw [e]
  rw [Ag, Ag] at CP
  rw [Ag]
  refine FZ.F rfl (by simp; exact AVal.clean p) (AVal.clean (⟨p.types, Bz 0 (AZ AP (Al p.nodes 0))⟩ : Program)) ?_
  clear e hR
  generalize AZ AP (Al p.nodes 0) = T' at *
  generalize Al p.nodes 0 = T at *
  generalize Bz 0 T' = L at *
  have hlm : ∀ hp, (L.map (av : Node → AV)).map (AV.pur hp) = L.map av := fun hp => AB _ hp
  have htm : ∀ hp, (p.types.map (av : BF → AV)).map (AV.pur hp) = p.types.map av := fun hp => AB _ hp
  simp +contextual -dsimp (maxSteps := 2000000) only [↓SD, SU, simprocAttr, FZ, Ag]
  intro v2
  refine Aa _ C ?_
  simp +contextual -dsimp (maxSteps := 2000000) only [↓SD, SU, simprocAttr]
  refine Aa _ G ?_
  simp +contextual -dsimp (maxSteps := 2000000) only [↓SD, SU, simprocAttr, AQ]
  refine Aa _ CS ?_
  simp +contextual -dsimp (maxSteps := 2000000) only [↓SD, SU, simprocAttr, AQ]
  refine Aa _ CP ?_
  simp +contextual -dsimp (maxSteps := 2000000) only [↓SD, SU, simprocAttr, hlm, htm]
end Go.Proofs.YtppjinmlfcokaaaGreat
