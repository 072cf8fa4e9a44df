/-
  growPat OF THE PROGRAM, by its abstract text. Conditions: none.
-/
import Derived.Test.YtohalepkikjinaaPackQ
import Derived.Test.YtohalepkikjinaaDataS
import Derived.Test.YtohalepkikjinaaIrGrowP
set_option linter.unusedVariables false
set_option linter.unusedSimpArgs false
set_option maxRecDepth 100000
namespace Go.Proofs.Ytohalepkikjinaa
open Go.RowKit Go.Proofs.Ytohalepkikjinaa.Av Go.Proofs.Ytohalepkikjinaa.Ml
open Go.Proofs.Ytohalepkikjinaa.Av.AVal (av)

theorem growPatH_ok (l : List PNode) (hk : ∀ i, i < l.length → ∀ k ∈ pkids l i, (i : Int) < k ∧ k < l.length) (hx : Bulk.bulk l ≤ 1048576) : ∀ (f i : Nat), i < l.length → l.length - i ≤ f → CallsF Try.prog 22 [.sl (l.map av), .int .i64 i] (av (growX (phd l) (pkids l) f i)) := by
  intro f
  induction f with
  | zero => intro i hi hf; omega
  | succ f ih =>
    intro i hi hf
    have hl := bulk_length l
    have e := getD_map av l i .top hi
    have hs := (pnode_small hx i hi).1
    have hK : pkids l i = l[i].kids := by rw [pkids, getD_at hi]
    have hH : phd l i = ⟨l[i].kind, l[i].n, l[i].s⟩ := by rw [phd, getD_at hi]
    have hg : growX (phd l) (pkids l) (f + 1) i = .mk ⟨l[i].kind, l[i].n, l[i].s⟩ (l[i].kids.map fun k => growX (phd l) (pkids l) f k.toNat) := by rw [growX, hK, hH]
    have hks := hk i hi
    rw [hK] at hks
    refine fun_impl_growPat rfl (by simp; exact ⟨lav_clean l, pint _⟩) (AVal.clean _) ?_
    rw [hg]
    clear hg hK hH
    generalize l[i] = n at *
    simp +contextual -dsimp only [↓SD, SU, SB, Nat.reduceAdd, Nat.reduceBEq, Nat.reduceEqDiff, Nat.reduceLeDiff, Nat.reduceLT, Nat.reduceSub, ↓reduceIte, zA, zI, zN, reduceCtorEq, Int.reduceToNat, zE, ir_impl_growPat, rs_impl_growPat, map_len, hi, e, av_PNode]
    intro w5 w
    refine aLoop_goes (X := Nat × Nat) (fun x => ⟨[(0, .sl (l.map av)), (6, .ptr 20 w 0 0), (22, .sl (n.kids.map av)), (23, .int .i64 n.kids.length), (24, .int .i64 x.1)], [(20, ⟨w, false, 87, 4, [.agg [.int .i64 n.kind, .int .i64 n.n, .str n.s, .row 37 x.2 x.1]]⟩), (37, ⟨x.2, false, 54, 1, ((n.kids.take x.1).map fun k => growX (phd l) (pkids l) f k.toNat).map av⟩)]⟩) (fun x => x.1 ≤ n.kids.length) (fun x => n.kids.length - x.1) (Goes.adoptB 20 0 3 37 54 1 rfl rfl Nat.zero_lt_one rfl (by decide) (fun v => Goes.le ⟨(0, v), Nat.zero_le _, rfl⟩ (by simp +contextual -dsimp only [↓SD, SU, SB, Nat.reduceAdd, Nat.reduceBEq, Nat.reduceEqDiff, Nat.reduceLeDiff, Nat.reduceLT, Nat.reduceSub, ↓reduceIte, zA, zI, zN, reduceCtorEq, Int.reduceToNat, zE]) (by simp +contextual -dsimp only [↓SD, SU, SB, Nat.reduceAdd, Nat.reduceBEq, Nat.reduceEqDiff, Nat.reduceLeDiff, Nat.reduceLT, Nat.reduceSub, ↓reduceIte, zA, zI, zN, reduceCtorEq, Int.reduceToNat, zE]))) ?_
    rintro ⟨j, u⟩ hj
    simp only at hj
    by_cases hlt : j < n.kids.length
    · have e2 := getD_map av n.kids j .top hlt
      have hkj := hks _ (List.getElem_mem hlt)
      have ht : n.kids.take (j + 1) = n.kids.take j ++ [n.kids[j]] := List.take_succ_eq_append_getElem hlt
      obtain ⟨m, hm⟩ : ∃ m : Nat, n.kids[j] = m := ⟨n.kids[j].toNat, by omega⟩
      rw [hm] at e2 hkj ht
      have C2 := ih m (by omega) (by omega)
      have hk2 : (n.kids.take j).length = j := by simp; omega
      have ht2 : List.take j (((n.kids.take j).map fun k => growX (phd l) (pkids l) f k.toNat).map av) = ((n.kids.take j).map fun k => growX (phd l) (pkids l) f k.toNat).map av := List.take_of_length_le (by simp; omega)
      simp +contextual -dsimp only [↓SD, SU, SB, Nat.reduceAdd, Nat.reduceBEq, Nat.reduceEqDiff, Nat.reduceLeDiff, Nat.reduceLT, Nat.reduceSub, ↓reduceIte, zA, zI, zN, reduceCtorEq, Int.reduceToNat, zE, map_len, hlt, e2, av_int]
      refine aCallK_of _ C2 ?_
      simp +contextual -dsimp only [↓SD, SU, SB, Nat.reduceAdd, Nat.reduceBEq, Nat.reduceEqDiff, Nat.reduceLeDiff, Nat.reduceLT, Nat.reduceSub, ↓reduceIte, zA, zI, zN, reduceCtorEq, Int.reduceToNat, zE, map_len, hlt, px_cells, px_pur, px_pur1, px_purA, px_one, px_ok, hk2, ht2]
      refine ⟨⟨by omega, by unfold maxLen; omega⟩, fun u' => ⟨by omega, Goes.le ⟨(j + 1, u'), ⟨hlt, (by first | omega | (simp only; omega))⟩, rfl⟩ (by simp +contextual -dsimp only [↓SD, SU, SB, Nat.reduceAdd, Nat.reduceBEq, Nat.reduceEqDiff, Nat.reduceLeDiff, Nat.reduceLT, Nat.reduceSub, ↓reduceIte, zA, zI, zN, reduceCtorEq, Int.reduceToNat, zE, Int.natCast_add]) (by simp +contextual -dsimp only [↓SD, SU, SB, Nat.reduceAdd, Nat.reduceBEq, Nat.reduceEqDiff, Nat.reduceLeDiff, Nat.reduceLT, Nat.reduceSub, ↓reduceIte, zA, zI, zN, reduceCtorEq, Int.reduceToNat, zE, ht, List.map_append, Int.toNat_natCast])⟩⟩
    · obtain rfl : j = n.kids.length := by omega
      simp +contextual -dsimp only [↓SD, SU, SB, Nat.reduceAdd, Nat.reduceBEq, Nat.reduceEqDiff, Nat.reduceLeDiff, Nat.reduceLT, Nat.reduceSub, ↓reduceIte, zA, zI, zN, reduceCtorEq, Int.reduceToNat, zE, map_len, Nat.lt_irrefl, map_nop, List.take_length, take_map]
      rw [av_Px, List.take_of_length_le (by simp)]

end Go.Proofs.Ytohalepkikjinaa
