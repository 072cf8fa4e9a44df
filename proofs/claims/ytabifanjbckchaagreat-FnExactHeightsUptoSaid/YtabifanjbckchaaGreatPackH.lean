/-
  THE GROUND OF DATA, in one text. Conditions: none.
-/
import Derived.Test.YtabifanjbckchaaGreatAvSimp
import Derived.Test.YtabifanjbckchaaGreatReachedS

set_option linter.unusedVariables false
namespace Go.Proofs.YtabifanjbckchaaGreat.Av
open Go.RowKit

theorem callsF_frz {P : Program} {f : FuncId} {args : List AV} {res : AV} {Post : AV → Hp → Prop} (h : CallsH P f args [] Post) (h1 : ∀ x ∈ args, AvPure x) (h2 : AvPure res) (hp : ∀ r hp', Post r hp' → r.pur (frzAll hp') = res) : CallsF P f args res := by
  obtain ⟨hc, h⟩ := h
  refine ⟨hc, h1, fun S w vs hS hv => ?_⟩
  have hW : WI ⟨w, S, ownOf mu0 [], mu0⟩ S w mu0 [] := ⟨⟨rfl, rfl, rfl, Nat.le_refl _, fun _ _ _ => rfl⟩, hS, fun _ h => h, fun _ h => .inl h, ⟨1, Nat.zero_lt_one, fun _ _ _ => rfl, fun _ _ h => by cases h⟩, fun k bx h => (by cases h), fun k k' bx bx' B B' b h => (by cases h), Mu.le.refl _⟩
  have hno : ∀ b, ¬ ownOf mu0 [] b := by rintro b ⟨k, bx, B, h, _⟩; cases h
  refine (h S w mu0 vs hW hv).mono fun e w' ⟨v, r, hp', S', μ', he, hpost, hvr, hw'⟩ => ?_
  obtain ⟨S1, w1, s1⟩ := WI.frzL (S := S') (hnames hp') hw'
  obtain ⟨S2, w2, s2⟩ := WI.frzL (S := S1) (hnames hp') w1
  have hv2 := VR.pur w2 (hvr.mono (fun b hb => s2 b (s1 b hb)) (Same.refl _ _) (Mu.le.refl _))
  have e : r.pur (frzL (hnames hp') (frzL (hnames hp') hp')) = res := hp r hp' hpost
  rw [e] at hv2
  have hsub : ∀ b, S2 b → S b ∨ (w.heap.size ≤ b ∧ b < w'.heap.size) := fun b hb => by
    rcases w2.new b hb with h | h | h
    · exact .inl h
    · exact .inr ⟨h, w2.lt b hb⟩
    · exact (hno b h).elim
  exact ⟨v, he, (h2 _ _ _ _ hv2).mono hsub (Same.refl _ _) (Mu.le.refl _), ⟨hw'.ext.os, hw'.ext.tape, hw'.ext.output, hw'.ext.size, fun b hb => hw'.ext.block b hb (hno b)⟩⟩
end Go.Proofs.YtabifanjbckchaaGreat.Av


set_option linter.unusedVariables false
set_option linter.unusedSimpArgs false
set_option maxRecDepth 100000
namespace Go.Proofs.YtabifanjbckchaaGreat
open Go.RowKit Go.Proofs.YtabifanjbckchaaGreat.Av Go.Proofs.YtabifanjbckchaaGreat.Ml
open Go.Proofs.YtabifanjbckchaaGreat.Av.AVal (av)
open OVal (ov oh on)

def RawPost (L : List Int) (r : AV) (hp' : Hp) : Prop := (r = .nils ∧ hp' = [] ∧ L = []) ∨ ∃ v, r = .row 16 v L.length ∧ hp' = [(16, ⟨v, false, 3, 1, L.map av⟩)] ∧ L ≠ []
set_option maxHeartbeats 2000000 in
theorem implReachedR_ok (c : Code) (hx : Bulk.bulk c ≤ 1048576) : CallsH Tryz.prog 23 [av c] [] (RawPost (reachedL c)) := by
  obtain ⟨⟨hl, hq⟩, hs, hp⟩ := code_small hx
  refine funH_impl_Reached rfl ?_
  have C := implCodeOk_ok c hx
  rw [av_Code] at C
  simp +contextual -dsimp (maxSteps := 2000000) only [↓SD, SU, SB, Nat.reduceAdd, Nat.reduceBEq, Nat.reduceEqDiff, Nat.reduceLeDiff, Nat.reduceLT, Nat.reduceSub, ↓reduceIte, zA, zI, zN, reduceCtorEq, Int.reduceToNat, zE, ir_impl_Reached, rs_impl_Reached, av_Code, map_len]
  cases hb : codeB c
  case false =>
    rw [hb] at C
    refine aCallK_of _ C ?_
    simp +contextual -dsimp (maxSteps := 2000000) only [↓SD, SU, SB, Nat.reduceAdd, Nat.reduceBEq, Nat.reduceEqDiff, Nat.reduceLeDiff, Nat.reduceLT, Nat.reduceSub, ↓reduceIte, zA, zI, zN, reduceCtorEq, Int.reduceToNat, zE]
    refine Goes.post [] ?_
    simp +contextual -dsimp (maxSteps := 2000000) only [↓SD, SU, SB, Nat.reduceAdd, Nat.reduceBEq, Nat.reduceEqDiff, Nat.reduceLeDiff, Nat.reduceLT, Nat.reduceSub, ↓reduceIte, zA, zI, zN, reduceCtorEq, Int.reduceToNat, zE]
    exact .inl ⟨rfl, rfl, by simp [reachedL, hb]⟩
  rw [hb] at C
  refine aCallK_of _ C ?_
  have hn : 1 ≤ c.ins.length ∧ c.ins.length ≤ 3000 := by
    have := hb
    unfold codeB at this
    simp only [Bool.and_eq_true, decide_eq_true_eq] at this
    omega
  have hin := fun {k} (hk : k < c.ins.length) => tgt_in hb hk
  have hR : reachedL c = (reachedN c.ins).map fun k : Nat => (k : Int) := by rw [reachedL, if_pos hb]
  rw [hR]
  obtain ⟨ins, pats⟩ := c
  simp only at hn hin hl ⊢
  clear hb hR hs hp hq C hx
  simp +contextual -dsimp (maxSteps := 2000000) only [↓SD, SU, SB, Nat.reduceAdd, Nat.reduceBEq, Nat.reduceEqDiff, Nat.reduceLeDiff, Nat.reduceLT, Nat.reduceSub, ↓reduceIte, zA, zI, zN, reduceCtorEq, Int.reduceToNat, zE, map_len]
  refine ⟨by omega, fun m u v => ?_⟩
  refine aLoop_of (X := RS) (fun x => ⟨[(1, .obj [.sl (ins.map av), .sl (pats.map av)]), (3, .row 14 x.m ins.length), (4, .row 15 x.u x.todo.length), (5, .row 16 x.v x.out.length)], [(14, ⟨x.m, false, 4, 1, metL ins.length x.out⟩), (15, ⟨x.u, false, 3, 1, avN x.todo⟩), (16, ⟨x.v, false, 3, 1, avN x.out⟩)]⟩) (fun x => RInv ins x.out x.todo ∧ x.todo.length ≤ 2 * x.out.length + 1) (fun x => 3 * (ins.length - x.out.length) + x.todo.length) ⟨[], [0], m, u, v⟩ ⟨⟨fun k h => (by cases h), fun k h => (by simp at h; subst h; exact ⟨.zero, by omega⟩), fun k h => (by cases h), .inr (by simp), List.nodup_nil⟩, by simp⟩ (by simp +contextual -dsimp only [↓SD, SU, SB, Nat.reduceAdd, Nat.reduceBEq, Nat.reduceEqDiff, Nat.reduceLeDiff, Nat.reduceLT, Nat.reduceSub, ↓reduceIte, zA, zI, zN, reduceCtorEq, Int.reduceToNat, zE]) (by simp +contextual -dsimp only [↓SD, SU, SB, Nat.reduceAdd, Nat.reduceBEq, Nat.reduceEqDiff, Nat.reduceLeDiff, Nat.reduceLT, Nat.reduceSub, ↓reduceIte, zA, zI, zN, reduceCtorEq, Int.reduceToNat, zE, metL_zero]; simp [avN]) ?_
  rintro ⟨out, todo, m, u, v⟩ ⟨hI, hbt⟩
  dsimp only at hI hbt ⊢
  have hol := hI.len
  have hlo := avN_len out
  have hlm := metL_len ins.length out
  rcases List.eq_nil_or_concat todo with rfl | ⟨t, k, rfl⟩
  · have h0 : 0 ∈ out := by rcases hI.z with h | h; · exact h
                            · cases h
    have hcl : ∀ k ∈ out, ∀ j ∈ scR ins k, j ∈ out := fun k hk j hj => by
      rcases hI.s k hk j hj with h | h
      · exact h
      · cases h
    have hsl := sortI_len (out.map fun k : Nat => (k : Int))
    rw [List.length_map] at hsl
    simp +contextual -dsimp (maxSteps := 2000000) only [↓SD, SU, SB, Nat.reduceAdd, Nat.reduceBEq, Nat.reduceEqDiff, Nat.reduceLeDiff, Nat.reduceLT, Nat.reduceSub, ↓reduceIte, zA, zI, zN, reduceCtorEq, Int.reduceToNat, zE, Int.reduceEq, Int.reduceLT, Int.reduceLE, Int.reduceNeg, Int.reduceAdd, Int.reduceSub, false_and]
    have CS := SortInt_ok 16 v (out.map fun k : Nat => (k : Int)) (by rw [List.length_map]; omega)
    rw [← avN_int, List.length_map] at CS
    refine aCallH_of [16] CS (by simp +contextual -dsimp only [↓SD, SU, SB, Nat.reduceAdd, Nat.reduceBEq, Nat.reduceEqDiff, Nat.reduceLeDiff, Nat.reduceLT, Nat.reduceSub, ↓reduceIte, zA, zI, zN, reduceCtorEq, Int.reduceToNat, zE]) ?_
    rintro r hp' ⟨rfl, rfl⟩
    have hres : sortI (out.map fun k : Nat => (k : Int)) = (reachedN ins).map fun k : Nat => (k : Int) := rchL_sort (fun k hk => hI.o k hk) h0 hcl hI.n rfl
    rw [hres] at hsl ⊢
    obtain ⟨R, hR⟩ : ∃ R, R = (reachedN ins).map fun k : Nat => (k : Int) := ⟨_, rfl⟩
    rw [← hR] at hsl ⊢
    simp +contextual -dsimp (maxSteps := 2000000) only [↓SD, SU, SB, Nat.reduceAdd, Nat.reduceBEq, Nat.reduceEqDiff, Nat.reduceLeDiff, Nat.reduceLT, Nat.reduceSub, ↓reduceIte, zA, zI, zN, reduceCtorEq, Int.reduceToNat, zE]
    refine Goes.post [(16, ⟨v, false, 3, 1, R.map av⟩)] ?_
    simp +contextual -dsimp (maxSteps := 2000000) only [↓SD, SU, SB, Nat.reduceAdd, Nat.reduceBEq, Nat.reduceEqDiff, Nat.reduceLeDiff, Nat.reduceLT, Nat.reduceSub, ↓reduceIte, zA, zI, zN, reduceCtorEq, Int.reduceToNat, zE, false_and]
    exact .inr ⟨v, by rw [hsl], rfl, fun e => by
      rw [e] at hsl
      have := List.length_pos_of_mem h0
      simp at hsl; omega⟩
  · rw [List.concat_eq_append] at hI hbt ⊢
    have hk := hI.t k (by simp)
    have hkl := hk.2
    have htl : (t ++ [k]).length = t.length + 1 := by simp
    rw [htl] at hbt
    have e1 : (avN (t ++ [k])).getD t.length .top = .int .i64 (k : Int) := by simp [avN, List.getD_eq_getElem?_getD]
    have e2 := metL_get out hkl .top
    have e3 : (t.length : Int) + 1 - 1 = t.length := by omega
    have e4 : (0 : Int) < (t.length : Int) + 1 := by omega
    have htk : List.take t.length (avN (t ++ [k])) = avN t := by rw [avN_app, List.take_append_of_le_length (by rw [avN_len]; exact Nat.le_refl _), List.take_of_length_le (by rw [avN_len]; exact Nat.le_refl _)]
    have htl2 : t.length ≤ (avN (t ++ [k])).length := by rw [avN_len, htl]; omega
    have hto : List.take out.length (avN out) = avN out := List.take_of_length_le (by rw [avN_len]; exact Nat.le_refl _)
    have el := getD_map av ins k .top hkl
    have hav : ∀ l : List Nat, ∀ j : Nat, avN l ++ [AV.int .i64 (j : Int)] = avN (l ++ [j]) := fun l j => by rw [avN_app]; rfl
    have hml : (avN (t ++ [k])).length = t.length + 1 := by rw [avN_len, htl]
    by_cases hko : k ∈ out
    · simp +contextual -dsimp (maxSteps := 2000000) only [↓SD, SU, SB, Nat.reduceAdd, Nat.reduceBEq, Nat.reduceEqDiff, Nat.reduceLeDiff, Nat.reduceLT, Nat.reduceSub, ↓reduceIte, zA, zI, zN, reduceCtorEq, Int.reduceToNat, zE, Int.reduceEq, Int.reduceLT, Int.reduceLE, Int.reduceNeg, Int.reduceAdd, Int.reduceSub, htl, false_and, Int.natCast_add, e1, e2, e3, e4, hko, hkl, hlm, hml]
      refine ⟨by omega, by omega, by omega, by omega, ?_⟩
      refine Goes.trim 15 t.length rfl ?_
      exact Goes.le ⟨⟨out, t, m, u, v⟩, ⟨⟨hI.skip hko, by dsimp only; omega⟩, by dsimp only; omega⟩, rfl⟩ (by simp +contextual -dsimp only [↓SD, SU, SB, Nat.reduceAdd, Nat.reduceBEq, Nat.reduceEqDiff, Nat.reduceLeDiff, Nat.reduceLT, Nat.reduceSub, ↓reduceIte, zA, zI, zN, reduceCtorEq, Int.reduceToNat, zE]) (by simp +contextual -dsimp only [↓SD, SU, SB, Nat.reduceAdd, Nat.reduceBEq, Nat.reduceEqDiff, Nat.reduceLeDiff, Nat.reduceLT, Nat.reduceSub, ↓reduceIte, zA, zI, zN, reduceCtorEq, Int.reduceToNat, zE, htk])
    · have hset := metL_set (n := ins.length) (k := k) out
      have ei : insAt ins k = ins[k] := by simp [insAt, List.getD_eq_getElem?_getD, hkl]
      have hti := hin hkl
      rw [ei] at hti
      have hsc : scR ins k = (tgtL ins[k]).map Int.toNat ++ if goesB ins[k] = true then [k + 1] else [] := by rw [scR, ei]
      have hbad : badR ins k ↔ (goesB ins[k] = true ∧ ins.length ≤ k + 1) := by rw [badR, ei]
      have hRk : Rch (scR ins) k := hk.1
      have hTN : (tgtL ins[k]).map (av : Int → AV) = avN ((tgtL ins[k]).map Int.toNat) := by
        have hid : (tgtL ins[k]).map ((fun k : Nat => (k : Int)) ∘ Int.toNat) = (tgtL ins[k]).map id := List.map_congr_left fun x hx => by have := hti x hx; simp; omega
        have h2 : ((tgtL ins[k]).map Int.toNat).map (fun k : Nat => (k : Int)) = tgtL ins[k] := by rw [List.map_map, hid, List.map_id]
        rw [avN_int, h2]
      have hT3 : (tgtL ins[k]).length ≤ 1 := by unfold tgtL; split <;> (try split) <;> simp
      have CT := targets_ok ins[k]
      have CG := goes_ok ins[k]
      generalize ins[k] = i at *
      rw [hTN] at CT
      obtain ⟨T, hT⟩ : ∃ T, T = (tgtL i).map Int.toNat := ⟨_, rfl⟩
      have hTin : ∀ j ∈ T, j < ins.length := fun j hj => by
        rw [hT] at hj
        obtain ⟨x, hx, rfl⟩ := List.mem_map.1 hj
        have := hti x hx
        omega
      have hTl : T.length ≤ 1 := by rw [hT, List.length_map]; exact hT3
      rw [← hT] at CT hsc
      have hTc : ∀ e ∈ avN T, e.cells.length = 1 := fun e he => by
        obtain ⟨j, _, rfl⟩ := List.mem_map.1 he; rfl
      have hTp : ∀ hp, (avN T).map (AV.pur hp) = avN T := fun hp => by simp [avN, AV.pur, AV.pur1]
      have hlT := avN_len T
      rw [av_Ins] at CT CG
      simp +contextual -dsimp (maxSteps := 2000000) only [↓SD, SU, SB, Nat.reduceAdd, Nat.reduceBEq, Nat.reduceEqDiff, Nat.reduceLeDiff, Nat.reduceLT, Nat.reduceSub, ↓reduceIte, zA, zI, zN, reduceCtorEq, Int.reduceToNat, zE, Int.reduceEq, Int.reduceLT, Int.reduceLE, Int.reduceNeg, Int.reduceAdd, Int.reduceSub, htl, false_and, Int.natCast_add, e1, e2, e3, e4, hko, hkl, hlm, hto, hml, el, av_Ins, map_len, hlo, hset]
      refine ⟨by omega, by omega, by omega, by omega, ⟨by omega, by unfold maxLen; omega⟩, fun v1 v2 => ?_⟩
      refine aCallK_of _ CT ?_
      simp +contextual -dsimp (maxSteps := 2000000) only [↓SD, SU, SB, Nat.reduceAdd, Nat.reduceBEq, Nat.reduceEqDiff, Nat.reduceLeDiff, Nat.reduceLT, Nat.reduceSub, ↓reduceIte, zA, zI, zN, reduceCtorEq, Int.reduceToNat, zE, Int.reduceEq, Int.reduceLT, Int.reduceLE, Int.reduceNeg, Int.reduceAdd, Int.reduceSub, hTp, hml, hlT, htk]
      refine ⟨⟨by omega, hTc, by omega, by unfold maxLen; omega⟩, fun v3 => ?_⟩
      refine aCallK_of _ CG ?_
      have htT : List.take (t.length + T.length) (avN t ++ avN T) = avN (t ++ T) := by rw [← avN_app, List.take_of_length_le (by rw [avN_len, List.length_append]; exact Nat.le_refl _)]
      have hlen2 : (avN t ++ avN T).length = t.length + T.length := by rw [List.length_append, avN_len, avN_len]
      have hbd := fun (hg : goesB i = true) (h : ins.length ≤ k + 1) => reachedN_bad hRk (hbad.2 ⟨hg, h⟩)
      generalize goesB i = g at *
      cases g
      · rw [if_neg (by decide), List.append_nil] at hsc
        have hI2 := hI.step hko (fun h => by have := (hbad.1 h).1; cases this) hsc.symm hTin
        have hl2 := hI2.len
        rw [List.length_append] at hl2
        simp only [List.length_cons, List.length_nil] at hl2
        simp +contextual -dsimp (maxSteps := 2000000) only [↓SD, SU, SB, Nat.reduceAdd, Nat.reduceBEq, Nat.reduceEqDiff, Nat.reduceLeDiff, Nat.reduceLT, Nat.reduceSub, ↓reduceIte, zA, zI, zN, reduceCtorEq, Int.reduceToNat, zE, Int.reduceEq, Int.reduceLT, Int.reduceLE, Int.reduceNeg, Int.reduceAdd, Int.reduceSub]
        exact Goes.le ⟨⟨out ++ [k], t ++ T, m, v3, v1⟩, ⟨⟨hI2, by simp only [List.length_append, List.length_cons, List.length_nil]; omega⟩, by simp only [List.length_append, List.length_cons, List.length_nil]; omega⟩, rfl⟩ (by simp +contextual -dsimp only [↓SD, SU, SB, Nat.reduceAdd, Nat.reduceBEq, Nat.reduceEqDiff, Nat.reduceLeDiff, Nat.reduceLT, Nat.reduceSub, ↓reduceIte, zA, zI, zN, reduceCtorEq, Int.reduceToNat, zE, List.length_append]) (by simp +contextual -dsimp only [↓SD, SU, SB, Nat.reduceAdd, Nat.reduceBEq, Nat.reduceEqDiff, Nat.reduceLeDiff, Nat.reduceLT, Nat.reduceSub, ↓reduceIte, zA, zI, zN, reduceCtorEq, Int.reduceToNat, zE, avN_app, hav])
      · rw [if_pos rfl] at hsc
        by_cases hend : ins.length ≤ k + 1
        · have hend' : (ins.length : Int) ≤ (k : Int) + 1 := by omega
          rw [hbd rfl hend]
          simp +contextual -dsimp (maxSteps := 2000000) only [↓SD, SU, SB, Nat.reduceAdd, Nat.reduceBEq, Nat.reduceEqDiff, Nat.reduceLeDiff, Nat.reduceLT, Nat.reduceSub, ↓reduceIte, zA, zI, zN, reduceCtorEq, Int.reduceToNat, zE, Int.reduceEq, Int.reduceLT, Int.reduceLE, Int.reduceNeg, Int.reduceAdd, Int.reduceSub, map_len, hend']
          refine ⟨by omega, ?_⟩
          refine Goes.post [] ?_
          simp +contextual -dsimp (maxSteps := 2000000) only [↓SD, SU, SB, Nat.reduceAdd, Nat.reduceBEq, Nat.reduceEqDiff, Nat.reduceLeDiff, Nat.reduceLT, Nat.reduceSub, ↓reduceIte, zA, zI, zN, reduceCtorEq, Int.reduceToNat, zE]
          exact .inl ⟨rfl, rfl, rfl⟩
        · have hend' : ¬ (ins.length : Int) ≤ (k : Int) + 1 := by omega
          have hI2 := hI.step (m := T ++ [k + 1]) hko (fun h => hend (hbad.1 h).2) hsc.symm (fun j hj => by
            rcases List.mem_append.1 hj with h | h
            · exact hTin j h
            · simp at h; omega)
          have hl2 := hI2.len
          rw [List.length_append] at hl2
          simp only [List.length_cons, List.length_nil] at hl2
          simp +contextual -dsimp (maxSteps := 2000000) only [↓SD, SU, SB, Nat.reduceAdd, Nat.reduceBEq, Nat.reduceEqDiff, Nat.reduceLeDiff, Nat.reduceLT, Nat.reduceSub, ↓reduceIte, zA, zI, zN, reduceCtorEq, Int.reduceToNat, zE, Int.reduceEq, Int.reduceLT, Int.reduceLE, Int.reduceNeg, Int.reduceAdd, Int.reduceSub, map_len, hend', hlen2, htT]
          refine ⟨by omega, by omega, ⟨by omega, by unfold maxLen; omega⟩, fun v4 => ?_⟩
          have hf : avN (t ++ T) ++ [AV.int .i64 ((k : Int) + 1)] = avN (t ++ (T ++ [k + 1])) := by
            have := hav (t ++ T) (k + 1)
            rw [List.append_assoc] at this
            rw [← this]; rfl
          exact Goes.le ⟨⟨out ++ [k], t ++ (T ++ [k + 1]), m, v4, v1⟩, ⟨⟨hI2, by simp only [List.length_append, List.length_cons, List.length_nil]; omega⟩, by simp only [List.length_append, List.length_cons, List.length_nil]; omega⟩, rfl⟩ (by simp +contextual -dsimp only [↓SD, SU, SB, Nat.reduceAdd, Nat.reduceBEq, Nat.reduceEqDiff, Nat.reduceLeDiff, Nat.reduceLT, Nat.reduceSub, ↓reduceIte, zA, zI, zN, reduceCtorEq, Int.reduceToNat, zE, List.length_append]; try simp [Nat.add_assoc]) (by simp +contextual -dsimp only [↓SD, SU, SB, Nat.reduceAdd, Nat.reduceBEq, Nat.reduceEqDiff, Nat.reduceLeDiff, Nat.reduceLT, Nat.reduceSub, ↓reduceIte, zA, zI, zN, reduceCtorEq, Int.reduceToNat, zE, hf, hav])
/-- what the program's Reached returns, read for good -/
def reachA (L : List Int) : AV := if L = [] then .nils else .sl (L.map av)
theorem reachA_clean (L : List Int) : AvPure (reachA L) := by
  unfold reachA; split
  · exact AvPure.nils
  · exact lav_clean L
theorem raw_pur {L : List Int} {r : AV} {hp' : Hp} (h : RawPost L r hp') : r.pur (frzAll hp') = reachA L := by
  unfold reachA
  rcases h with ⟨rfl, rfl, rfl⟩ | ⟨v, rfl, rfl, h⟩
  · rfl
  · rw [if_neg h]
    have t0 : List.take L.length (L.map (av : Int → AV)) = L.map av := List.take_of_length_le (by simp)
    simp only [frzAll, hnames, frzL, hfrz, hget, AV.pur, AV.pur1, map_nop, if_true, map_len, t0, List.contains_nil, Bool.false_eq_true, if_false, true_and, Nat.le_refl]
theorem implReachedF_ok (c : Code) (hx : Bulk.bulk c ≤ 1048576) : CallsF Tryz.prog 23 [av c] (reachA (reachedL c)) :=
  callsF_frz (implReachedR_ok c hx) (by simp; exact AVal.clean c) (reachA_clean _) fun _ _ => raw_pur
end Go.Proofs.YtabifanjbckchaaGreat


set_option linter.unusedVariables false
set_option linter.unusedSimpArgs false
namespace Go.Proofs.YtabifanjbckchaaGreat
open Go.RowKit Go.Proofs.YtabifanjbckchaaGreat.Av Go.Proofs.YtabifanjbckchaaGreat.Ml
open Go.Proofs.YtabifanjbckchaaGreat.Av.AVal (av)

/-- how many values an instruction needs, how many it makes; how many bindings more there are behind it -/
def needI (i : Ins) : Int := if i.op = 5 ∨ i.op = 16 ∨ i.op = 10 ∨ i.op = 24 then 2 else if i.op = 22 ∨ i.op = 23 ∨ i.op = 25 ∨ i.op = 13 ∨ i.op = 14 ∨ i.op = 17 ∨ i.op = 21 ∨ i.op = 20 ∨ i.op = 11 then 1 else if i.op = 4 then i.a else 0
def makeI (i : Ins) : Int := if i.op = 1 ∨ i.op = 2 ∨ i.op = 3 ∨ i.op = 6 ∨ i.op = 7 ∨ i.op = 8 ∨ i.op = 4 ∨ i.op = 5 ∨ i.op = 16 ∨ i.op = 10 ∨ i.op = 24 ∨ i.op = 22 ∨ i.op = 23 then 1 else 0
def namesI (c : Code) (a : Int) : Int := ((varsOf (c.pats.getD a.toNat ⟨[]⟩).nodes).length : Int)
def moreI (c : Code) (i : Ins) : Int := if i.op = 9 ∨ i.op = 14 then 1 else if i.op = 15 then -i.a else if i.op = 20 then namesI c i.a else 0
/-- a place, and what is known there -/
structure Fc where
  k : Nat
  v : Int
  e : Int
  deriving DecidableEq
def targF (i : Ins) (v e : Int) : List Fc :=
  if i.op = 12 then [⟨i.a.toNat, v, e⟩] else if i.op = 13 then [⟨i.a.toNat, v - 1, e⟩] else if i.op = 8 then [⟨i.a.toNat, 0, e + 1⟩] else if i.op = 9 then [⟨i.a.toNat, 0, e + 2⟩]
  else if i.op = 18 then [⟨i.a.toNat, v, e + 1⟩] else if i.op = 20 then [⟨i.b.toNat, v, e⟩] else []
def nextF (c : Code) (i : Ins) (x : Fc) : List Fc := if goesB i = true then [⟨x.k + 1, x.v - needI i + makeI i, x.e + moreI c i⟩] else []
def leapF (c : Code) (x : Fc) : List Fc := nextF c (insAt c.ins x.k) x ++ targF (insAt c.ins x.k) x.v x.e
def badI (c : Code) (i : Ins) (x : Fc) : Prop := x.v < needI i ∨ (i.op = 11 ∧ x.v ≠ 1) ∨ (i.op = 6 ∧ x.e ≤ i.a) ∨ x.e + moreI c i < 0
def badF (c : Code) (x : Fc) : Prop := badI c (insAt c.ins x.k) x
inductive Hts (c : Code) : Fc → Prop
  | start : Hts c ⟨0, 0, 0⟩
  | step {x y : Fc} (h : Hts c x) (hy : y ∈ leapF c x) : Hts c y
/-- nothing is wrong -/
def Good (c : Code) : Prop := (∀ x, Hts c x → ¬ badF c x) ∧ ∀ x y, Hts c x → Hts c y → x.k = y.k → x = y
open Classical in
noncomputable def hgtV (c : Code) (k : Nat) : Int := if h : ∃ x, Hts c x ∧ x.k = k then (Classical.choose h).v else -1
open Classical in
noncomputable def hgtE (c : Code) (k : Nat) : Int := if h : ∃ x, Hts c x ∧ x.k = k then (Classical.choose h).e else -1
open Classical in
noncomputable def hgtsOk (c : Code) : Bool := decide (reachedL c ≠ [] ∧ Good c)
noncomputable def hgtsV (c : Code) : List Int := if hgtsOk c = true then (List.range c.ins.length).map (hgtV c) else []
noncomputable def hgtsE (c : Code) : List Int := if hgtsOk c = true then (List.range c.ins.length).map (hgtE c) else []

/-- the facts that are noted: as arrays -/
def lookF (M : List Fc) (k : Nat) : Option Fc := M.find? fun x => x.k == k
def valsF (n : Nat) (M : List Fc) : List Int := (List.range n).map fun k => ((lookF M k).map Fc.v).getD (-1)
def envsF (n : Nat) (M : List Fc) : List Int := (List.range n).map fun k => ((lookF M k).map Fc.e).getD (-1)
theorem look_mem {M : List Fc} {k : Nat} {x : Fc} (h : lookF M k = some x) : x ∈ M ∧ x.k = k := by
  unfold lookF at h
  have h1 := List.find?_some h
  exact ⟨List.mem_of_find?_eq_some h, by simpa using h1⟩
theorem look_none {M : List Fc} {k : Nat} (h : lookF M k = none) : ∀ x ∈ M, x.k ≠ k := fun x hx => by
  unfold lookF at h
  rw [List.find?_eq_none] at h
  simpa using h x hx
theorem look_snoc {M : List Fc} {x : Fc} (h : lookF M x.k = none) (k : Nat) : lookF (M ++ [x]) k = if k = x.k then some x else lookF M k := by
  unfold lookF at h ⊢
  rw [List.find?_append]
  by_cases hk : k = x.k
  · subst hk
    rw [h, if_pos rfl]; simp
  · rw [if_neg hk]
    have : ¬ x.k = k := fun e => hk e.symm
    simp [this]
theorem valsF_len (n : Nat) (M : List Fc) : (valsF n M).length = n := by simp [valsF]
theorem envsF_len (n : Nat) (M : List Fc) : (envsF n M).length = n := by simp [envsF]
theorem valsF_nil (n : Nat) : valsF n [] = List.replicate n (-1) := by
  apply List.ext_getElem (by simp [valsF])
  intro i h1 h2
  simp [valsF, lookF]
theorem envsF_nil (n : Nat) : envsF n [] = List.replicate n (-1) := by
  apply List.ext_getElem (by simp [envsF])
  intro i h1 h2
  simp [envsF, lookF]
theorem valsF_set {n : Nat} {M : List Fc} {x : Fc} (h : lookF M x.k = none) : (valsF n M).set x.k x.v = valsF n (M ++ [x]) := by
  apply List.ext_getElem (by simp [valsF])
  intro i h1 h2
  have hi : i < n := by simpa [valsF] using h2
  simp only [valsF, List.getElem_set, List.getElem_map, List.getElem_range, look_snoc h]
  by_cases e : x.k = i
  · subst e; simp
  · have : ¬ i = x.k := fun h => e h.symm
    simp [e, this]
theorem envsF_set {n : Nat} {M : List Fc} {x : Fc} (h : lookF M x.k = none) : (envsF n M).set x.k x.e = envsF n (M ++ [x]) := by
  apply List.ext_getElem (by simp [envsF])
  intro i h1 h2
  have hi : i < n := by simpa [envsF] using h2
  simp only [envsF, List.getElem_set, List.getElem_map, List.getElem_range, look_snoc h]
  by_cases e : x.k = i
  · subst e; simp
  · have : ¬ i = x.k := fun h => e h.symm
    simp [e, this]
theorem valsF_get {n k : Nat} (M : List Fc) (h : k < n) : (valsF n M)[k]'(by rw [valsF_len]; exact h) = ((lookF M k).map Fc.v).getD (-1) := by simp [valsF]
theorem envsF_get {n k : Nat} (M : List Fc) (h : k < n) : (envsF n M)[k]'(by rw [envsF_len]; exact h) = ((lookF M k).map Fc.e).getD (-1) := by simp [envsF]

/-- all facts are noted and nothing is wrong -/
theorem good_of {c : Code} {M : List Fc} (h1 : ∀ x ∈ M, Hts c x ∧ ¬ badF c x) (h0 : (⟨0, 0, 0⟩ : Fc) ∈ M) (hc : ∀ x ∈ M, ∀ y ∈ leapF c x, y ∈ M) (hn : ∀ x ∈ M, ∀ y ∈ M, x.k = y.k → x = y) :
    Good c ∧ (List.range c.ins.length).map (hgtV c) = valsF c.ins.length M ∧ (List.range c.ins.length).map (hgtE c) = envsF c.ins.length M := by
  have hM : ∀ x, Hts c x → x ∈ M := fun x h => by
    induction h with
    | start => exact h0
    | step _ hy ih => exact hc _ ih _ hy
  have hg : Good c := ⟨fun x h => (h1 x (hM x h)).2, fun x y hx hy e => hn x (hM x hx) y (hM y hy) e⟩
  refine ⟨hg, ?_, ?_⟩
  · refine List.map_congr_left fun k hk => ?_
    unfold hgtV
    split
    · rename_i h
      have hs := Classical.choose_spec h
      cases hl : lookF M k with
      | none => exact absurd hs.2 (look_none hl _ (hM _ hs.1))
      | some z =>
        have hz := look_mem hl
        rw [hn _ (hM _ hs.1) z hz.1 (by rw [hs.2, hz.2])]; rfl
    · rename_i h
      cases hl : lookF M k with
      | none => rfl
      | some z =>
        have hz := look_mem hl
        exact absurd ⟨z, (h1 z hz.1).1, hz.2⟩ h
  · refine List.map_congr_left fun k hk => ?_
    unfold hgtE
    split
    · rename_i h
      have hs := Classical.choose_spec h
      cases hl : lookF M k with
      | none => exact absurd hs.2 (look_none hl _ (hM _ hs.1))
      | some z =>
        have hz := look_mem hl
        rw [hn _ (hM _ hs.1) z hz.1 (by rw [hs.2, hz.2])]; rfl
    · rename_i h
      cases hl : lookF M k with
      | none => rfl
      | some z =>
        have hz := look_mem hl
        exact absurd ⟨z, (h1 z hz.1).1, hz.2⟩ h
theorem bad_no {c : Code} {x : Fc} (h : Hts c x) (hb : badF c x) : hgtsOk c = false := by
  unfold hgtsOk
  rw [decide_eq_false_iff_not]
  exact fun hh => hh.2.1 x h hb
theorem clash_no {c : Code} {x y : Fc} (h : Hts c x) (hy : Hts c y) (e : x.k = y.k) (hne : x ≠ y) : hgtsOk c = false := by
  unfold hgtsOk
  rw [decide_eq_false_iff_not]
  exact fun hh => hne (hh.2.2 x y h hy e)
theorem none_no {c : Code} (h : reachedL c = []) : hgtsOk c = false := by
  unfold hgtsOk
  rw [decide_eq_false_iff_not]
  exact fun hh => hh.1 h

/-- right code: what instructions ask -/
theorem ins_ok {c : Code} (h : codeB c = true) {k : Nat} (hk : k < c.ins.length) : insB c.ins.length c.pats.length (insAt c.ins k) = true := by
  have e : insAt c.ins k = c.ins[k] := by simp [insAt, List.getD_eq_getElem?_getD, hk]
  rw [e]
  unfold codeB at h
  simp only [Bool.and_eq_true] at h
  exact List.all_eq_true.1 h.2 _ (List.getElem_mem hk)
theorem targ_k {i : Ins} {v e : Int} : (targF i v e).map Fc.k = (tgtL i).map Int.toNat := by
  unfold targF tgtL leadB
  by_cases h12 : i.op = 12
  · simp [h12]
  by_cases h13 : i.op = 13
  · simp [h13]
  by_cases h8 : i.op = 8
  · simp [h8]
  by_cases h9 : i.op = 9
  · simp [h9]
  by_cases h18 : i.op = 18
  · simp [h18]
  by_cases h20 : i.op = 20
  · simp [h20]
  simp [h12, h13, h8, h9, h18, h20]
theorem leap_k {c : Code} {x y : Fc} (h : y ∈ leapF c x) : y.k ∈ scR c.ins x.k := by
  unfold leapF at h
  unfold scR
  rcases List.mem_append.1 h with h | h
  · unfold nextF at h
    split at h
    · rename_i hg
      simp at h; subst h
      rw [if_pos hg]; simp
    · cases h
  · have := List.mem_map_of_mem (f := Fc.k) h
    rw [targ_k] at this
    exact List.mem_append_left _ this
theorem hts_rch {c : Code} {x : Fc} (h : Hts c x) : Rch (scR c.ins) x.k := by
  induction h with
  | start => exact .zero
  | step _ hy ih => exact .step ih (leap_k hy)
theorem rch_in {c : Code} (hr : reachedL c ≠ []) : codeB c = true ∧ ∀ k, Rch (scR c.ins) k → k < c.ins.length ∧ ¬ badR c.ins k := by
  have hb : codeB c = true := by
    cases h : codeB c with
    | true => rfl
    | false => exact absurd (by rw [reachedL, if_neg (by rw [h]; decide)]) hr
  have hnb : ∀ k, Rch (scR c.ins) k → ¬ badR c.ins k := fun k hk hbad => hr (by rw [reachedL, if_pos hb, reachedN_bad hk hbad]; rfl)
  refine ⟨hb, fun k hk => ⟨?_, hnb k hk⟩⟩
  have hn : 1 ≤ c.ins.length := by
    have := hb
    unfold codeB at this
    simp only [Bool.and_eq_true, decide_eq_true_eq] at this
    omega
  induction hk with
  | zero => omega
  | step h hj ih =>
    rename_i k j
    unfold scR at hj
    rcases List.mem_append.1 hj with hj | hj
    · obtain ⟨t, ht, rfl⟩ := List.mem_map.1 hj
      have := tgt_in hb ih t ht
      omega
    · split at hj
      · rename_i hg
        simp at hj
        have := hnb k h
        rw [badR] at this
        have h2 : ¬ c.ins.length ≤ k + 1 := fun e => this ⟨hg, e⟩
        omega
      · cases hj
theorem vars_le (l : List PNode) : (varsOf l).length ≤ l.length := varsOf_len l
theorem names_le {c : Code} (h : codeB c = true) (a : Int) : 0 ≤ namesI c a ∧ namesI c a ≤ 600 := by
  unfold namesI
  refine ⟨by omega, ?_⟩
  rw [List.getD_eq_getElem?_getD]
  by_cases hk : a.toNat < c.pats.length
  · rw [List.getElem?_eq_getElem hk, Option.getD_some]
    have hq : patB (c.pats[a.toNat]).nodes = true := by
      unfold codeB at h
      simp only [Bool.and_eq_true] at h
      exact List.all_eq_true.1 h.1.2 _ (List.getElem_mem hk)
    have := (patB_at hq).1
    have h2 := vars_le (c.pats[a.toNat]).nodes
    omega
  · rw [List.getElem?_eq_none (by omega)]
    simp [varsOf]
/-- bounds of facts, where m facts are noted -/
def FcB (m : Nat) (x : Fc) : Prop := (0 ≤ x.v ∧ x.v ≤ m) ∧ 0 ≤ x.e ∧ x.e ≤ 1000 * m
theorem need_rng {c : Code} {i : Ins} (h : insB c.ins.length c.pats.length i = true) : 0 ≤ needI i ∧ needI i ≤ 2 ∧ 0 ≤ makeI i ∧ makeI i ≤ 1 := by
  have hm : 0 ≤ makeI i ∧ makeI i ≤ 1 := by unfold makeI; split <;> omega
  refine ⟨?_, ?_, hm⟩
  all_goals
    unfold needI
    split
    · omega
    · split
      · omega
      · split
        · rename_i h4
          unfold insB leadB at h
          simp [h4] at h
          omega
        · omega
theorem more_rng {c : Code} (hb : codeB c = true) {i : Ins} (h : insB c.ins.length c.pats.length i = true) : -3000 ≤ moreI c i ∧ moreI c i ≤ 600 := by
  have := names_le hb i.a
  unfold moreI
  split
  · omega
  · split
    · rename_i h15
      unfold insB leadB at h
      simp [h15] at h
      omega
    · split <;> omega
theorem leap_b {c : Code} (hb : codeB c = true) {m : Nat} {x : Fc} (hx : x.k < c.ins.length) (hB : FcB m x) (hn : ¬ badF c x) : ∀ y ∈ leapF c x, FcB (m + 1) y := by
  intro y hy
  have hi := ins_ok hb hx
  have hnd := need_rng hi
  have hm := more_rng hb hi
  unfold badF badI at hn
  unfold leapF at hy
  unfold FcB at hB ⊢
  generalize insAt c.ins x.k = i at *
  rcases List.mem_append.1 hy with h | h
  · unfold nextF at h
    split at h
    · simp only [List.mem_cons, List.not_mem_nil, or_false] at h; subst h
      simp only; omega
    · cases h
  · unfold targF at h
    by_cases h12 : i.op = 12
    · rw [if_pos h12] at h; simp only [List.mem_cons, List.not_mem_nil, or_false] at h; subst h; simp only; omega
    rw [if_neg h12] at h
    by_cases h13 : i.op = 13
    · rw [if_pos h13] at h; simp only [List.mem_cons, List.not_mem_nil, or_false] at h; subst h
      have : needI i = 1 := by unfold needI; simp [h13]
      simp only; omega
    rw [if_neg h13] at h
    by_cases h8 : i.op = 8
    · rw [if_pos h8] at h; simp only [List.mem_cons, List.not_mem_nil, or_false] at h; subst h; simp only; omega
    rw [if_neg h8] at h
    by_cases h9 : i.op = 9
    · rw [if_pos h9] at h; simp only [List.mem_cons, List.not_mem_nil, or_false] at h; subst h; simp only; omega
    rw [if_neg h9] at h
    by_cases h18 : i.op = 18
    · rw [if_pos h18] at h; simp only [List.mem_cons, List.not_mem_nil, or_false] at h; subst h; simp only; omega
    rw [if_neg h18] at h
    by_cases h20 : i.op = 20
    · rw [if_pos h20] at h; simp only [List.mem_cons, List.not_mem_nil, or_false] at h; subst h; simp only; omega
    rw [if_neg h20] at h
    cases h
theorem FcB.mono {m m' : Nat} {x : Fc} (h : FcB m x) (hm : m ≤ m') : FcB m' x := by unfold FcB at *; omega
theorem leap_len (c : Code) (x : Fc) : (leapF c x).length ≤ 2 := by
  unfold leapF nextF targF
  rw [List.length_append]
  repeat' split
  all_goals simp

/-- the program's loop: what is noted, what is to do -/
structure HInv (c : Code) (M todo : List Fc) : Prop where
  o : ∀ x ∈ M, Hts c x ∧ ¬ badF c x ∧ FcB M.length x
  t : ∀ x ∈ todo, Hts c x ∧ FcB M.length x
  s : ∀ x ∈ M, ∀ y ∈ leapF c x, y ∈ M ∨ y ∈ todo
  z : (⟨0, 0, 0⟩ : Fc) ∈ M ∨ (⟨0, 0, 0⟩ : Fc) ∈ todo
  n : (M.map Fc.k).Nodup
theorem nodup_key {M : List Fc} (h : (M.map Fc.k).Nodup) : ∀ x ∈ M, ∀ y ∈ M, x.k = y.k → x = y := by
  induction M with
  | nil => intro x hx; cases hx
  | cons a M ih =>
    rw [List.map_cons, List.nodup_cons] at h
    intro x hx y hy e
    rcases List.mem_cons.1 hx with e1 | h1
    · rcases List.mem_cons.1 hy with e2 | h2
      · rw [e1, e2]
      · exact absurd (by rw [← e1, e]; exact List.mem_map_of_mem h2) h.1
    · rcases List.mem_cons.1 hy with e2 | h2
      · exact absurd (by rw [← e2, ← e]; exact List.mem_map_of_mem h1) h.1
      · exact ih h.2 x h1 y h2 e
theorem HInv.start (c : Code) : HInv c [] [⟨0, 0, 0⟩] where
  o := fun x hx => by cases hx
  t := fun x hx => by simp at hx; subst hx; exact ⟨.start, by unfold FcB; simp⟩
  s := fun x hx => by cases hx
  z := .inr (by simp)
  n := by simp
theorem HInv.len {c : Code} (hr : reachedL c ≠ []) {M todo : List Fc} (h : HInv c M todo) : M.length ≤ c.ins.length := by
  have := nodup_bound h.n (n := c.ins.length) fun k hk => by
    obtain ⟨x, hx, rfl⟩ := List.mem_map.1 hk
    exact ((rch_in hr).2 _ (hts_rch (h.o x hx).1)).1
  simpa using this
theorem HInv.skip {c : Code} {M t : List Fc} {x : Fc} (h : HInv c M (t ++ [x])) (hx : x ∈ M) : HInv c M t where
  o := h.o
  t := fun y hy => h.t y (List.mem_append_left _ hy)
  s := fun a ha y hy => by
    rcases h.s a ha y hy with e | e
    · exact .inl e
    · rcases List.mem_append.1 e with e | e
      · exact .inr e
      · simp at e; subst e; exact .inl hx
  z := by
    rcases h.z with e | e
    · exact .inl e
    · rcases List.mem_append.1 e with e | e
      · exact .inr e
      · simp at e; subst e; exact .inl hx
  n := h.n
theorem HInv.step {c : Code} (hb : codeB c = true) {M t : List Fc} {x : Fc} (h : HInv c M (t ++ [x])) (hx : lookF M x.k = none) (hk : x.k < c.ins.length) (hbad : ¬ badF c x) : HInv c (M ++ [x]) (t ++ leapF c x) where
  o := fun a ha => by
    have hl : (M ++ [x]).length = M.length + 1 := by simp
    rcases List.mem_append.1 ha with e | e
    · obtain ⟨h1, h2, h3⟩ := h.o a e
      exact ⟨h1, h2, h3.mono (by omega)⟩
    · simp at e; subst e
      obtain ⟨h1, h3⟩ := h.t a (by simp)
      exact ⟨h1, hbad, h3.mono (by omega)⟩
  t := fun a ha => by
    have hl : (M ++ [x]).length = M.length + 1 := by simp
    rcases List.mem_append.1 ha with e | e
    · obtain ⟨h1, h3⟩ := h.t a (List.mem_append_left _ e)
      exact ⟨h1, h3.mono (by omega)⟩
    · obtain ⟨h1, h3⟩ := h.t x (by simp)
      exact ⟨.step h1 e, by rw [hl]; exact leap_b hb hk h3 hbad a e⟩
  s := fun a ha y hy => by
    rcases List.mem_append.1 ha with e | e
    · rcases h.s a e y hy with e2 | e2
      · exact .inl (List.mem_append_left _ e2)
      · rcases List.mem_append.1 e2 with e3 | e3
        · exact .inr (List.mem_append_left _ e3)
        · simp at e3; subst e3; exact .inl (by simp)
    · simp at e; subst e
      exact .inr (List.mem_append_right _ hy)
  z := by
    rcases h.z with e | e
    · exact .inl (List.mem_append_left _ e)
    · rcases List.mem_append.1 e with e | e
      · exact .inr (List.mem_append_left _ e)
      · simp at e; subst e; exact .inl (by simp)
  n := by
    rw [List.map_append, List.nodup_append]
    refine ⟨h.n, by simp, fun a ha b hb' e => ?_⟩
    simp at hb'; subst hb'; subst e
    obtain ⟨y, hy, e⟩ := List.mem_map.1 ha
    exact look_none hx y hy e
theorem HInv.done {c : Code} (hr : reachedL c ≠ []) {M : List Fc} (h : HInv c M []) : hgtsOk c = true ∧ hgtsV c = valsF c.ins.length M ∧ hgtsE c = envsF c.ins.length M := by
  have h0 : (⟨0, 0, 0⟩ : Fc) ∈ M := by rcases h.z with e | e; · exact e
                                       · cases e
  obtain ⟨hg, hV, hE⟩ := good_of (M := M) (fun x hx => ⟨(h.o x hx).1, (h.o x hx).2.1⟩) h0 (fun x hx y hy => by
    rcases h.s x hx y hy with e | e
    · exact e
    · cases e) (nodup_key h.n)
  have hk : hgtsOk c = true := by unfold hgtsOk; simp only [decide_eq_true_eq]; exact ⟨hr, hg⟩
  exact ⟨hk, by unfold hgtsV; rw [if_pos hk, hV], by unfold hgtsE; rw [if_pos hk, hE]⟩
end Go.Proofs.YtabifanjbckchaaGreat
