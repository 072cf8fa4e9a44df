/-
  Reached OF THE REFERENCE, by abstract texts. Conditions: the numbers of the instructions are ints.
-/
import Derived.Test.YtabifanjbckchaaGreatReachedW
set_option linter.unusedVariables false
set_option linter.unusedSimpArgs false
set_option maxRecDepth 100000
namespace Go.Proofs.YtabifanjbckchaaGreat
open Go.RowKit Go.Proofs.YtabifanjbckchaaGreat.Av Go.Proofs.YtabifanjbckchaaGreat.Ml
open Go.Proofs.YtabifanjbckchaaGreat.Av.AVal (av)

def STgtPost (i : Ins) (r : AV) (hp' : Hp) : Prop := ∃ v, r = .row 50 v (tgtL i).length ∧ hp' = [(50, ⟨v, false, 3, 1, (tgtL i).map av⟩)]
theorem targetsS_ok (i : Ins) : CallsH Tryz.prog 53 [av i] [] (STgtPost i) := by
  refine funH_spec_Targets rfl ?_
  have hT : tgtL i = if leadB i.op = true then [i.a] else if i.op = 20 then [i.b] else [] := rfl
  by_cases h1 : i.op = 12
  · rw [if_pos (by simp [leadB, h1])] at hT
    simp +contextual -dsimp (maxSteps := 2000000) only [↓SD, SU, SB, Nat.reduceAdd, Nat.reduceBEq, Nat.reduceEqDiff, Nat.reduceLeDiff, Nat.reduceLT, Nat.reduceSub, ↓reduceIte, zA, zI, zN, reduceCtorEq, Int.reduceToNat, zE, Int.reduceEq, Int.reduceLT, Int.reduceLE, Int.reduceNeg, Int.reduceAdd, Int.reduceSub, ir_spec_Targets, rs_spec_Targets, av_Ins, h1]
    intro v
    refine Goes.post [(50, ⟨v, false, 3, 1, [.int .i64 i.a]⟩)] ?_
    simp +contextual -dsimp (maxSteps := 2000000) only [↓SD, SU, SB, Nat.reduceAdd, Nat.reduceBEq, Nat.reduceEqDiff, Nat.reduceLeDiff, Nat.reduceLT, Nat.reduceSub, ↓reduceIte, zA, zI, zN, reduceCtorEq, Int.reduceToNat, zE]
    exact ⟨v, by rw [hT]; rfl, by rw [hT]; rfl⟩
  by_cases h2 : i.op = 13
  · rw [if_pos (by simp [leadB, h2])] at hT
    simp +contextual -dsimp (maxSteps := 2000000) only [↓SD, SU, SB, Nat.reduceAdd, Nat.reduceBEq, Nat.reduceEqDiff, Nat.reduceLeDiff, Nat.reduceLT, Nat.reduceSub, ↓reduceIte, zA, zI, zN, reduceCtorEq, Int.reduceToNat, zE, Int.reduceEq, Int.reduceLT, Int.reduceLE, Int.reduceNeg, Int.reduceAdd, Int.reduceSub, ir_spec_Targets, rs_spec_Targets, av_Ins, h2]
    intro v
    refine Goes.post [(50, ⟨v, false, 3, 1, [.int .i64 i.a]⟩)] ?_
    simp +contextual -dsimp (maxSteps := 2000000) only [↓SD, SU, SB, Nat.reduceAdd, Nat.reduceBEq, Nat.reduceEqDiff, Nat.reduceLeDiff, Nat.reduceLT, Nat.reduceSub, ↓reduceIte, zA, zI, zN, reduceCtorEq, Int.reduceToNat, zE]
    exact ⟨v, by rw [hT]; rfl, by rw [hT]; rfl⟩
  by_cases h3 : i.op = 18
  · rw [if_pos (by simp [leadB, h3])] at hT
    simp +contextual -dsimp (maxSteps := 2000000) only [↓SD, SU, SB, Nat.reduceAdd, Nat.reduceBEq, Nat.reduceEqDiff, Nat.reduceLeDiff, Nat.reduceLT, Nat.reduceSub, ↓reduceIte, zA, zI, zN, reduceCtorEq, Int.reduceToNat, zE, Int.reduceEq, Int.reduceLT, Int.reduceLE, Int.reduceNeg, Int.reduceAdd, Int.reduceSub, ir_spec_Targets, rs_spec_Targets, av_Ins, h3]
    intro v
    refine Goes.post [(50, ⟨v, false, 3, 1, [.int .i64 i.a]⟩)] ?_
    simp +contextual -dsimp (maxSteps := 2000000) only [↓SD, SU, SB, Nat.reduceAdd, Nat.reduceBEq, Nat.reduceEqDiff, Nat.reduceLeDiff, Nat.reduceLT, Nat.reduceSub, ↓reduceIte, zA, zI, zN, reduceCtorEq, Int.reduceToNat, zE]
    exact ⟨v, by rw [hT]; rfl, by rw [hT]; rfl⟩
  by_cases h4 : i.op = 8
  · rw [if_pos (by simp [leadB, h4])] at hT
    simp +contextual -dsimp (maxSteps := 2000000) only [↓SD, SU, SB, Nat.reduceAdd, Nat.reduceBEq, Nat.reduceEqDiff, Nat.reduceLeDiff, Nat.reduceLT, Nat.reduceSub, ↓reduceIte, zA, zI, zN, reduceCtorEq, Int.reduceToNat, zE, Int.reduceEq, Int.reduceLT, Int.reduceLE, Int.reduceNeg, Int.reduceAdd, Int.reduceSub, ir_spec_Targets, rs_spec_Targets, av_Ins, h4]
    intro v
    refine Goes.post [(50, ⟨v, false, 3, 1, [.int .i64 i.a]⟩)] ?_
    simp +contextual -dsimp (maxSteps := 2000000) only [↓SD, SU, SB, Nat.reduceAdd, Nat.reduceBEq, Nat.reduceEqDiff, Nat.reduceLeDiff, Nat.reduceLT, Nat.reduceSub, ↓reduceIte, zA, zI, zN, reduceCtorEq, Int.reduceToNat, zE]
    exact ⟨v, by rw [hT]; rfl, by rw [hT]; rfl⟩
  by_cases h5 : i.op = 9
  · rw [if_pos (by simp [leadB, h5])] at hT
    simp +contextual -dsimp (maxSteps := 2000000) only [↓SD, SU, SB, Nat.reduceAdd, Nat.reduceBEq, Nat.reduceEqDiff, Nat.reduceLeDiff, Nat.reduceLT, Nat.reduceSub, ↓reduceIte, zA, zI, zN, reduceCtorEq, Int.reduceToNat, zE, Int.reduceEq, Int.reduceLT, Int.reduceLE, Int.reduceNeg, Int.reduceAdd, Int.reduceSub, ir_spec_Targets, rs_spec_Targets, av_Ins, h5]
    intro v
    refine Goes.post [(50, ⟨v, false, 3, 1, [.int .i64 i.a]⟩)] ?_
    simp +contextual -dsimp (maxSteps := 2000000) only [↓SD, SU, SB, Nat.reduceAdd, Nat.reduceBEq, Nat.reduceEqDiff, Nat.reduceLeDiff, Nat.reduceLT, Nat.reduceSub, ↓reduceIte, zA, zI, zN, reduceCtorEq, Int.reduceToNat, zE]
    exact ⟨v, by rw [hT]; rfl, by rw [hT]; rfl⟩
  rw [if_neg (by simp [leadB, h1, h2, h3, h4, h5])] at hT
  by_cases h6 : i.op = 20
  · rw [if_pos h6] at hT
    simp +contextual -dsimp (maxSteps := 2000000) only [↓SD, SU, SB, Nat.reduceAdd, Nat.reduceBEq, Nat.reduceEqDiff, Nat.reduceLeDiff, Nat.reduceLT, Nat.reduceSub, ↓reduceIte, zA, zI, zN, reduceCtorEq, Int.reduceToNat, zE, Int.reduceEq, Int.reduceLT, Int.reduceLE, Int.reduceNeg, Int.reduceAdd, Int.reduceSub, ir_spec_Targets, rs_spec_Targets, av_Ins, h6]
    intro v
    refine Goes.post [(50, ⟨v, false, 3, 1, [.int .i64 i.b]⟩)] ?_
    simp +contextual -dsimp (maxSteps := 2000000) only [↓SD, SU, SB, Nat.reduceAdd, Nat.reduceBEq, Nat.reduceEqDiff, Nat.reduceLeDiff, Nat.reduceLT, Nat.reduceSub, ↓reduceIte, zA, zI, zN, reduceCtorEq, Int.reduceToNat, zE]
    exact ⟨v, by rw [hT]; rfl, by rw [hT]; rfl⟩
  · rw [if_neg h6] at hT
    simp +contextual -dsimp (maxSteps := 2000000) only [↓SD, SU, SB, Nat.reduceAdd, Nat.reduceBEq, Nat.reduceEqDiff, Nat.reduceLeDiff, Nat.reduceLT, Nat.reduceSub, ↓reduceIte, zA, zI, zN, reduceCtorEq, Int.reduceToNat, zE, Int.reduceEq, Int.reduceLT, Int.reduceLE, Int.reduceNeg, Int.reduceAdd, Int.reduceSub, ir_spec_Targets, rs_spec_Targets, av_Ins, h1, h2, h3, h4, h5, h6]
    intro v
    refine Goes.post [(50, ⟨v, false, 3, 1, []⟩)] ?_
    simp +contextual -dsimp (maxSteps := 2000000) only [↓SD, SU, SB, Nat.reduceAdd, Nat.reduceBEq, Nat.reduceEqDiff, Nat.reduceLeDiff, Nat.reduceLT, Nat.reduceSub, ↓reduceIte, zA, zI, zN, reduceCtorEq, Int.reduceToNat, zE]
    exact ⟨v, by rw [hT]; rfl, by rw [hT]; rfl⟩

theorem tgt_short (i : Ins) : (tgtL i).length ≤ 1 := by unfold tgtL; split <;> (try split) <;> simp
theorem tgt_nat {l : List Ins} {k : Nat} (h : ∀ t ∈ tgtL (insAt l k), 0 ≤ t ∧ t < l.length) : (tgtL (insAt l k)).map (av : Int → AV) = avN ((tgtL (insAt l k)).map Int.toNat) := by
  have hid : (tgtL (insAt l k)).map ((fun k : Nat => (k : Int)) ∘ Int.toNat) = (tgtL (insAt l k)).map id := List.map_congr_left fun x hx => by have := h x hx; simp; omega
  have h2 : ((tgtL (insAt l k)).map Int.toNat).map (fun k : Nat => (k : Int)) = tgtL (insAt l k) := by rw [List.map_map, hid, List.map_id]
  rw [avN_int, h2]
theorem l18Next_ok (ins : List Ins) (pats : List Pat) (k : Nat) (hk : k < ins.length) (hn : ins.length ≤ 1048576) (hin : ∀ t ∈ tgtL (insAt ins k), 0 ≤ t ∧ t < ins.length) :
    CallsF Tryz.prog 33 [.agg [.sl (ins.map av), .sl (pats.map av)], .int .i64 (k : Int)] (.tup [.sl (avN (scR ins k)), .bool (decide (¬ badR ins k))]) := by
  have hN := tgt_nat hin
  have hc1 : ∀ e ∈ avN (scR ins k), ∀ y ∈ e.cells, AvPure y := fun e he y hy => by
    obtain ⟨j, _, rfl⟩ := List.mem_map.1 he
    simp [AV.cells] at hy; subst hy; exact pint _
  refine fun_spec_l18Next rfl (by simp; exact ⟨AvPure.agg (by simp; exact ⟨lav_clean ins, lav_clean pats⟩), pint _⟩) (AvPure.tup (by simp; exact ⟨AvPure.sl hc1, AvPure.bool _⟩)) ?_
  have el := getD_map av ins k .top hk
  have ei : insAt ins k = ins[k] := by simp [insAt, List.getD_eq_getElem?_getD, hk]
  have hsc : scR ins k = (tgtL ins[k]).map Int.toNat ++ if goesB ins[k] = true then [k + 1] else [] := by rw [scR, ei]
  have hbad : badR ins k ↔ (goesB ins[k] = true ∧ ins.length ≤ k + 1) := by rw [badR, ei]
  rw [ei] at hN hin
  have CT := targetsS_ok ins[k]
  have CG := goesS_ok ins[k]
  have hT1 := tgt_short ins[k]
  have hlT : (tgtL ins[k]).length = ((tgtL ins[k]).map Int.toNat).length := by rw [List.length_map]
  clear ei
  generalize ins[k] = i at *
  obtain ⟨T, hT⟩ : ∃ T, T = (tgtL i).map Int.toNat := ⟨_, rfl⟩
  rw [← hT] at hN hsc hlT
  rw [av_Ins] at CT CG
  simp +contextual -dsimp (maxSteps := 2000000) only [↓SD, SU, SB, Nat.reduceAdd, Nat.reduceBEq, Nat.reduceEqDiff, Nat.reduceLeDiff, Nat.reduceLT, Nat.reduceSub, ↓reduceIte, zA, zI, zN, reduceCtorEq, Int.reduceToNat, zE, ir_spec_l18Next, rs_spec_l18Next, map_len, hk, el, av_Ins]
  refine aCallH_of [] CT (by simp +contextual -dsimp only [↓SD, SU, SB, Nat.reduceAdd, Nat.reduceBEq, Nat.reduceEqDiff, Nat.reduceLeDiff, Nat.reduceLT, Nat.reduceSub, ↓reduceIte, zA, zI, zN, reduceCtorEq, Int.reduceToNat, zE]) ?_
  rintro r hp' ⟨v, rfl, rfl⟩
  rw [hN, hlT]
  rw [hlT] at hT1
  simp +contextual -dsimp (maxSteps := 2000000) only [↓SD, SU, SB, Nat.reduceAdd, Nat.reduceBEq, Nat.reduceEqDiff, Nat.reduceLeDiff, Nat.reduceLT, Nat.reduceSub, ↓reduceIte, zA, zI, zN, reduceCtorEq, Int.reduceToNat, zE, map_len, hk, el, av_Ins]
  refine aCallK_of _ CG ?_
  have htT : List.take T.length (avN T) = avN T := List.take_of_length_le (by rw [avN_len]; exact Nat.le_refl _)
  have hlen := avN_len T
  have hTp : ∀ hp, (avN T).map (AV.pur hp) = avN T := fun hp => by simp [avN, AV.pur, AV.pur1]
  generalize goesB i = g at *
  cases g
  · rw [if_neg (by decide), List.append_nil] at hsc
    have hd : decide (¬ badR ins k) = true := decide_eq_true (fun h => by have := (hbad.1 h).1; cases this)
    rw [hsc, hd]
    simp +contextual -dsimp (maxSteps := 2000000) only [↓SD, SU, SB, Nat.reduceAdd, Nat.reduceBEq, Nat.reduceEqDiff, Nat.reduceLeDiff, Nat.reduceLT, Nat.reduceSub, ↓reduceIte, zA, zI, zN, reduceCtorEq, Int.reduceToNat, zE, hlen, htT, hTp, Nat.le_refl]
  · rw [if_pos rfl] at hsc
    have hd : decide (¬ badR ins k) = decide ((k : Int) + 1 < ins.length) := decide_eq_decide.2 (by rw [hbad]; simp; omega)
    have hav : avN T ++ [AV.int .i64 ((k : Int) + 1)] = avN (T ++ [k + 1]) := by rw [avN_app]; rfl
    have hl2 := avN_len (T ++ [k + 1])
    rw [List.length_append] at hl2
    simp only [List.length_cons, List.length_nil] at hl2
    have htT2 : List.take (T.length + 1) (avN (T ++ [k + 1])) = avN (T ++ [k + 1]) := List.take_of_length_le (by rw [hl2]; exact Nat.le_refl _)
    have hTp2 : ∀ hp, (avN (T ++ [k + 1])).map (AV.pur hp) = avN (T ++ [k + 1]) := fun hp => by simp [avN, AV.pur, AV.pur1]
    rw [hsc, hd]
    simp +contextual -dsimp (maxSteps := 2000000) only [↓SD, SU, SB, Nat.reduceAdd, Nat.reduceBEq, Nat.reduceEqDiff, Nat.reduceLeDiff, Nat.reduceLT, Nat.reduceSub, ↓reduceIte, zA, zI, zN, reduceCtorEq, Int.reduceToNat, zE, hlen, htT, hTp, map_len, hav, htT2, hTp2, hl2, Nat.le_refl]
    exact ⟨by omega, ⟨by omega, by unfold maxLen; omega⟩, by omega⟩

/-- what is known at the head of the reference's loop -/
structure SInv (l : List Ins) (list : List Nat) (i : Nat) : Prop where
  o : ∀ k ∈ list, Rch (scR l) k ∧ k < l.length
  n : list.Nodup
  c : ∀ k ∈ list.take i, ¬ badR l k ∧ ∀ x ∈ scR l k, x ∈ list
  z : 0 ∈ list
  i : i ≤ list.length
theorem SInv.len {l : List Ins} {list : List Nat} {i : Nat} (h : SInv l list i) : list.length ≤ l.length := nodup_bound h.n fun k hk => (h.o k hk).2
/-- within a round: M are the places that may follow -/
structure SIn (l : List Ins) (list M : List Nat) (q : Nat) (list' : List Nat) : Prop where
  o : ∀ k ∈ list', Rch (scR l) k ∧ k < l.length
  n : list'.Nodup
  p : ∃ ext, list' = list ++ ext
  d : ∀ x ∈ M.take q, x ∈ list'
  q : q ≤ M.length
theorem SIn.len {l : List Ins} {list M list' : List Nat} {q : Nat} (h : SIn l list M q list') : list'.length ≤ l.length := nodup_bound h.n fun k hk => (h.o k hk).2
def avF (n : Nat) (p : Nat → Bool) : List Nat := (List.range n).filter p
theorem avF_succ (n : Nat) (p : Nat → Bool) : avF (n + 1) p = avF n p ++ if p n = true then [n] else [] := by
  unfold avF
  rw [List.range_succ, List.filter_append]
  by_cases h : p n = true <;> simp [h]
theorem avF_len (n : Nat) (p : Nat → Bool) : (avF n p).length ≤ n := by
  unfold avF
  refine Nat.le_trans (List.length_filter_le _ _) ?_
  simp
structure SO where
  i : Nat
  list : List Nat
  u : Nat
structure SQ where
  q : Nat
  list : List Nat
  u : Nat
def SRPost (c : Code) (r : AV) (hp' : Hp) : Prop := hp' = [] ∧ (r = .sl ((reachedL c).map av) ∨ (r = .nils ∧ reachedL c = []))
set_option maxHeartbeats 2000000 in
theorem specReached_ok (c : Code) (hx : Bulk.bulk c ≤ 1048576) (hr : ∀ i ∈ c.ins, -9223372036854775808 ≤ i.a ∧ i.a ≤ 9223372036854775807) : CallsF Tryz.prog 18 [av c] (.sl ((reachedL c).map av)) := by
  obtain ⟨⟨hl, hq⟩, hs, hp⟩ := code_small hx
  refine callsF_of_H (Post := SRPost c) ?_ (by simp; exact AVal.clean c) (lav_clean _) (fun r hp' ⟨_, h⟩ => by
    rcases h with h | ⟨h, h2⟩
    · exact .inl h
    · exact .inr ⟨h, by rw [h2]; rfl⟩)
  refine funH_spec_Reached rfl ?_
  have C := specCodeOk_ok c hx hr
  rw [av_Code] at C
  simp +contextual -dsimp (maxSteps := 2000000) only [↓SD, SU, SB, Nat.reduceAdd, Nat.reduceBEq, Nat.reduceEqDiff, Nat.reduceLeDiff, Nat.reduceLT, Nat.reduceSub, ↓reduceIte, zA, zI, zN, reduceCtorEq, Int.reduceToNat, zE, ir_spec_Reached, rs_spec_Reached, av_Code, map_len]
  cases hb : codeB c
  case false =>
    rw [hb] at C
    refine aCallK_of _ C ?_
    simp +contextual -dsimp (maxSteps := 2000000) only [↓SD, SU, SB, Nat.reduceAdd, Nat.reduceBEq, Nat.reduceEqDiff, Nat.reduceLeDiff, Nat.reduceLT, Nat.reduceSub, ↓reduceIte, zA, zI, zN, reduceCtorEq, Int.reduceToNat, zE]
    refine Goes.post [] ?_
    simp +contextual -dsimp (maxSteps := 2000000) only [↓SD, SU, SB, Nat.reduceAdd, Nat.reduceBEq, Nat.reduceEqDiff, Nat.reduceLeDiff, Nat.reduceLT, Nat.reduceSub, ↓reduceIte, zA, zI, zN, reduceCtorEq, Int.reduceToNat, zE]
    exact ⟨rfl, .inr ⟨rfl, by rw [reachedL, if_neg (by rw [hb]; decide)]⟩⟩
  rw [hb] at C
  refine aCallK_of _ C ?_
  have hn : 1 ≤ c.ins.length ∧ c.ins.length ≤ 3000 := by
    have := hb
    unfold codeB at this
    simp only [Bool.and_eq_true, decide_eq_true_eq] at this
    omega
  have hin := fun {k} (hk : k < c.ins.length) => tgt_in hb hk
  have hR : reachedL c = (reachedN c.ins).map fun k : Nat => (k : Int) := by rw [reachedL, if_pos hb]
  obtain ⟨R, hRe⟩ : ∃ R, R = reachedL c := ⟨_, rfl⟩
  have hPost : ∀ r hp', (hp' = [] ∧ (r = .sl (R.map av) ∨ (r = .nils ∧ R = []))) → SRPost c r hp' := fun r hp' h => by unfold SRPost; rw [← hRe]; exact h
  generalize SRPost c = PP at *
  rw [hR] at hRe
  clear hR
  obtain ⟨ins, pats⟩ := c
  simp only at hn hin hl hRe ⊢
  clear hb hs hp hq C hx hr
  have hm0 : List.replicate ins.length (AV.bool false) = metL ins.length [] := (metL_zero _).symm
  have hg0 := metL_get (n := ins.length) (k := 0) [] (by omega) .top
  have hs0 := metL_set (n := ins.length) (k := 0) []
  have hl0 := metL_len ins.length []
  have hpos : (0 : Int) < ins.length := by omega
  have hpos' : 0 < ins.length := by omega
  simp +contextual -dsimp (maxSteps := 2000000) only [↓SD, SU, SB, Nat.reduceAdd, Nat.reduceBEq, Nat.reduceEqDiff, Nat.reduceLeDiff, Nat.reduceLT, Nat.reduceSub, ↓reduceIte, zA, zI, zN, reduceCtorEq, Int.reduceToNat, zE, Int.reduceEq, Int.reduceLT, Int.reduceLE, Int.reduceNeg, Int.reduceAdd, Int.reduceSub, map_len, hm0, hg0, hs0, hl0, hpos, hpos']
  refine ⟨by omega, fun m u => ?_⟩
  refine aLoop_of (X := SO) (fun x => ⟨[(1, .obj [.sl (ins.map av), .sl (pats.map av)]), (3, .row 19 m ins.length), (4, .row 20 x.u x.list.length), (5, .int .i64 x.i)], [(19, ⟨m, false, 4, 1, metL ins.length x.list⟩), (20, ⟨x.u, false, 3, 1, avN x.list⟩)]⟩) (fun x => SInv ins x.list x.i) (fun x => ins.length - x.i) ⟨0, [0], u⟩ ⟨fun k h => (by simp at h; subst h; exact ⟨.zero, by omega⟩), by simp, fun k h => (by simp at h), by simp, by simp⟩ (by simp +contextual -dsimp only [↓SD, SU, SB, Nat.reduceAdd, Nat.reduceBEq, Nat.reduceEqDiff, Nat.reduceLeDiff, Nat.reduceLT, Nat.reduceSub, ↓reduceIte, zA, zI, zN, reduceCtorEq, Int.reduceToNat, zE]) (by simp +contextual -dsimp only [↓SD, SU, SB, Nat.reduceAdd, Nat.reduceBEq, Nat.reduceEqDiff, Nat.reduceLeDiff, Nat.reduceLT, Nat.reduceSub, ↓reduceIte, zA, zI, zN, reduceCtorEq, Int.reduceToNat, zE]; simp [avN]) ?_
  rintro ⟨i, list, u⟩ hI
  dsimp only at hI ⊢
  have hll := hI.len
  have hlo := avN_len list
  have hil := hI.i
  by_cases hlt : i < list.length
  · obtain ⟨k, hkd⟩ : ∃ k, k = list[i] := ⟨_, rfl⟩
    have hkm : k ∈ list := by rw [hkd]; exact List.getElem_mem hlt
    have hk := hI.o k hkm
    have e1 : (avN list).getD i .top = .int .i64 (k : Int) := by rw [hkd]; simp [avN, List.getD_eq_getElem?_getD, hlt]
    have hts : list.take (i + 1) = list.take i ++ [k] := by rw [hkd]; exact List.take_succ_eq_append_getElem hlt
    have CN := l18Next_ok ins pats k hk.2 (by omega) (hin hk.2)
    by_cases hbd : badR ins k
    · have hres : R = [] := by rw [hRe, reachedN_bad hk.1 hbd]; rfl
      rw [decide_eq_false (fun h => h hbd)] at CN
      simp +contextual -dsimp (maxSteps := 2000000) only [↓SD, SU, SB, Nat.reduceAdd, Nat.reduceBEq, Nat.reduceEqDiff, Nat.reduceLeDiff, Nat.reduceLT, Nat.reduceSub, ↓reduceIte, zA, zI, zN, reduceCtorEq, Int.reduceToNat, zE, Int.reduceEq, Int.reduceLT, Int.reduceLE, Int.reduceNeg, Int.reduceAdd, Int.reduceSub, hlt, e1, hlo, hk.2]
      refine aCallK_of _ CN ?_
      simp +contextual -dsimp (maxSteps := 2000000) only [↓SD, SU, SB, Nat.reduceAdd, Nat.reduceBEq, Nat.reduceEqDiff, Nat.reduceLeDiff, Nat.reduceLT, Nat.reduceSub, ↓reduceIte, zA, zI, zN, reduceCtorEq, Int.reduceToNat, zE, Int.reduceEq, Int.reduceLT, Int.reduceLE, Int.reduceNeg, Int.reduceAdd, Int.reduceSub]
      refine Goes.post [] ?_
      simp +contextual -dsimp (maxSteps := 2000000) only [↓SD, SU, SB, Nat.reduceAdd, Nat.reduceBEq, Nat.reduceEqDiff, Nat.reduceLeDiff, Nat.reduceLT, Nat.reduceSub, ↓reduceIte, zA, zI, zN, reduceCtorEq, Int.reduceToNat, zE]
      exact hPost _ _ ⟨rfl, .inr ⟨rfl, hres⟩⟩
    · rw [decide_eq_true hbd] at CN
      have hNin : ∀ x ∈ scR ins k, x < ins.length := fun x hx => by
        have hb2 : ¬ (goesB (insAt ins k) = true ∧ ins.length ≤ k + 1) := hbd
        unfold scR at hx
        rcases List.mem_append.1 hx with h | h
        · obtain ⟨y, hy, rfl⟩ := List.mem_map.1 h
          have := hin hk.2 y hy
          omega
        · split at h
          · rename_i hg
            simp at h
            have : ¬ ins.length ≤ k + 1 := fun h2 => hb2 ⟨hg, h2⟩
            omega
          · cases h
      have hNl : (scR ins k).length ≤ 2 := by
        have := tgt_short (insAt ins k)
        unfold scR
        rw [List.length_append, List.length_map]
        split <;> simp <;> omega
      have hNr : ∀ x ∈ scR ins k, Rch (scR ins) x := fun x hx => .step hk.1 hx
      obtain ⟨M, hM⟩ : ∃ M, M = scR ins k := ⟨_, rfl⟩
      rw [← hM] at CN hNin hNl hNr
      have hlM := avN_len M
      simp +contextual -dsimp (maxSteps := 2000000) only [↓SD, SU, SB, Nat.reduceAdd, Nat.reduceBEq, Nat.reduceEqDiff, Nat.reduceLeDiff, Nat.reduceLT, Nat.reduceSub, ↓reduceIte, zA, zI, zN, reduceCtorEq, Int.reduceToNat, zE, Int.reduceEq, Int.reduceLT, Int.reduceLE, Int.reduceNeg, Int.reduceAdd, Int.reduceSub, hlt, e1, hlo, hk.2]
      refine aCallK_of _ CN ?_
      simp +contextual -dsimp (maxSteps := 2000000) only [↓SD, SU, SB, Nat.reduceAdd, Nat.reduceBEq, Nat.reduceEqDiff, Nat.reduceLeDiff, Nat.reduceLT, Nat.reduceSub, ↓reduceIte, zA, zI, zN, reduceCtorEq, Int.reduceToNat, zE, Int.reduceEq, Int.reduceLT, Int.reduceLE, Int.reduceNeg, Int.reduceAdd, Int.reduceSub, hlM]
      refine aLoop_of (X := SQ) (fun x => ⟨[(1, .obj [.sl (ins.map av), .sl (pats.map av)]), (3, .row 19 m ins.length), (4, .row 20 x.u x.list.length), (5, .int .i64 i), (40, .sl (avN M)), (41, .int .i64 M.length), (42, .int .i64 x.q)], [(19, ⟨m, false, 4, 1, metL ins.length x.list⟩), (20, ⟨x.u, false, 3, 1, avN x.list⟩)]⟩) (fun x => SIn ins list M x.q x.list) (fun x => M.length - x.q) ⟨0, list, u⟩ ⟨hI.o, hI.n, ⟨[], by simp⟩, fun x h => (by simp at h), Nat.zero_le _⟩ (by simp +contextual -dsimp only [↓SD, SU, SB, Nat.reduceAdd, Nat.reduceBEq, Nat.reduceEqDiff, Nat.reduceLeDiff, Nat.reduceLT, Nat.reduceSub, ↓reduceIte, zA, zI, zN, reduceCtorEq, Int.reduceToNat, zE]) (by simp +contextual -dsimp only [↓SD, SU, SB, Nat.reduceAdd, Nat.reduceBEq, Nat.reduceEqDiff, Nat.reduceLeDiff, Nat.reduceLT, Nat.reduceSub, ↓reduceIte, zA, zI, zN, reduceCtorEq, Int.reduceToNat, zE]) ?_
      rintro ⟨q, li, w⟩ hQ
      dsimp only at hQ ⊢
      have hql := hQ.q
      have hll2 := hQ.len
      have hlo2 := avN_len li
      by_cases hqt : q < M.length
      · obtain ⟨x, hxd⟩ : ∃ x, x = M[q] := ⟨_, rfl⟩
        have hxm : x ∈ M := by rw [hxd]; exact List.getElem_mem hqt
        have hxn := hNin x hxm
        have e2 : (avN M).getD q .top = .int .i64 (x : Int) := by rw [hxd]; simp [avN, List.getD_eq_getElem?_getD, hqt]
        have htq : M.take (q + 1) = M.take q ++ [x] := by rw [hxd]; exact List.take_succ_eq_append_getElem hqt
        have e3 := metL_get (n := ins.length) li hxn .top
        have hset := metL_set (n := ins.length) (k := x) li
        have hlm := metL_len ins.length li
        have hav : avN li ++ [AV.int .i64 (x : Int)] = avN (li ++ [x]) := by rw [avN_app]; rfl
        have hto : List.take li.length (avN li) = avN li := List.take_of_length_le (by rw [avN_len]; exact Nat.le_refl _)
        by_cases hxl : x ∈ li
        · have hQ2 : SIn ins list M (q + 1) li := ⟨hQ.o, hQ.n, hQ.p, fun y hy => by
            rw [htq] at hy
            rcases List.mem_append.1 hy with h | h
            · exact hQ.d y h
            · simp at h; subst h; exact hxl, hqt⟩
          simp +contextual -dsimp (maxSteps := 2000000) only [↓SD, SU, SB, Nat.reduceAdd, Nat.reduceBEq, Nat.reduceEqDiff, Nat.reduceLeDiff, Nat.reduceLT, Nat.reduceSub, ↓reduceIte, zA, zI, zN, reduceCtorEq, Int.reduceToNat, zE, Int.reduceEq, Int.reduceLT, Int.reduceLE, Int.reduceNeg, Int.reduceAdd, Int.reduceSub, hqt, e2, e3, hxl, hlM, hxn]
          refine ⟨by omega, by omega, Goes.le ⟨⟨q + 1, li, w⟩, ⟨hQ2, (by first | omega | (simp only; omega))⟩, rfl⟩ (by simp +contextual -dsimp only [↓SD, SU, SB, Nat.reduceAdd, Nat.reduceBEq, Nat.reduceEqDiff, Nat.reduceLeDiff, Nat.reduceLT, Nat.reduceSub, ↓reduceIte, zA, zI, zN, reduceCtorEq, Int.reduceToNat, zE, Int.natCast_add]) (by simp +contextual -dsimp only [↓SD, SU, SB, Nat.reduceAdd, Nat.reduceBEq, Nat.reduceEqDiff, Nat.reduceLeDiff, Nat.reduceLT, Nat.reduceSub, ↓reduceIte, zA, zI, zN, reduceCtorEq, Int.reduceToNat, zE])⟩
        · have hQ2 : SIn ins list M (q + 1) (li ++ [x]) := ⟨fun y hy => by
            rcases List.mem_append.1 hy with h | h
            · exact hQ.o y h
            · simp at h; subst h; exact ⟨hNr y hxm, hxn⟩, by
            rw [List.nodup_append]
            refine ⟨hQ.n, by simp, fun a ha b hb e => ?_⟩
            simp at hb; subst hb; subst e; exact hxl ha, by
            obtain ⟨ext, he⟩ := hQ.p
            exact ⟨ext ++ [x], by rw [he, List.append_assoc]⟩, fun y hy => by
            rw [htq] at hy
            rcases List.mem_append.1 hy with h | h
            · exact List.mem_append_left _ (hQ.d y h)
            · simp at h; subst h; simp, hqt⟩
          simp +contextual -dsimp (maxSteps := 2000000) only [↓SD, SU, SB, Nat.reduceAdd, Nat.reduceBEq, Nat.reduceEqDiff, Nat.reduceLeDiff, Nat.reduceLT, Nat.reduceSub, ↓reduceIte, zA, zI, zN, reduceCtorEq, Int.reduceToNat, zE, Int.reduceEq, Int.reduceLT, Int.reduceLE, Int.reduceNeg, Int.reduceAdd, Int.reduceSub, hqt, e2, e3, hxl, hlM, hxn, hset, hlm, hto, hlo2]
          refine ⟨⟨by omega, by unfold maxLen; omega⟩, fun w2 => ⟨by omega, Goes.le ⟨⟨q + 1, li ++ [x], w2⟩, ⟨hQ2, (by first | omega | (simp only; omega))⟩, rfl⟩ (by simp +contextual -dsimp only [↓SD, SU, SB, Nat.reduceAdd, Nat.reduceBEq, Nat.reduceEqDiff, Nat.reduceLeDiff, Nat.reduceLT, Nat.reduceSub, ↓reduceIte, zA, zI, zN, reduceCtorEq, Int.reduceToNat, zE, Int.natCast_add, List.length_append]) (by simp +contextual -dsimp only [↓SD, SU, SB, Nat.reduceAdd, Nat.reduceBEq, Nat.reduceEqDiff, Nat.reduceLeDiff, Nat.reduceLT, Nat.reduceSub, ↓reduceIte, zA, zI, zN, reduceCtorEq, Int.reduceToNat, zE, hav])⟩⟩
      · obtain rfl : q = M.length := by omega
        have hI2 : SInv ins li (i + 1) := by
          obtain ⟨ext, he⟩ := hQ.p
          have hsub : ∀ x ∈ list, x ∈ li := fun x hx => by rw [he]; exact List.mem_append_left _ hx
          refine ⟨hQ.o, hQ.n, fun y hy => ?_, hsub 0 hI.z, by rw [he, List.length_append]; omega⟩
          rw [he, List.take_append_of_le_length (by omega), hts] at hy
          rcases List.mem_append.1 hy with h | h
          · have := hI.c y h
            exact ⟨this.1, fun z hz => hsub z (this.2 z hz)⟩
          · simp at h; subst h
            refine ⟨hbd, fun z hz => hQ.d z ?_⟩
            rw [List.take_length, hM]; exact hz
        have := hI2.i
        simp +contextual -dsimp (maxSteps := 2000000) only [↓SD, SU, SB, Nat.reduceAdd, Nat.reduceBEq, Nat.reduceEqDiff, Nat.reduceLeDiff, Nat.reduceLT, Nat.reduceSub, ↓reduceIte, zA, zI, zN, reduceCtorEq, Int.reduceToNat, zE, Int.reduceEq, Int.reduceLT, Int.reduceLE, Int.reduceNeg, Int.reduceAdd, Int.reduceSub, Nat.lt_irrefl, hlM]
        refine ⟨by omega, Goes.le ⟨⟨i + 1, li, w⟩, ⟨hI2, (by first | omega | (simp only; omega))⟩, rfl⟩ (by simp +contextual -dsimp only [↓SD, SU, SB, Nat.reduceAdd, Nat.reduceBEq, Nat.reduceEqDiff, Nat.reduceLeDiff, Nat.reduceLT, Nat.reduceSub, ↓reduceIte, zA, zI, zN, reduceCtorEq, Int.reduceToNat, zE, Int.natCast_add]) (by simp +contextual -dsimp only [↓SD, SU, SB, Nat.reduceAdd, Nat.reduceBEq, Nat.reduceEqDiff, Nat.reduceLeDiff, Nat.reduceLT, Nat.reduceSub, ↓reduceIte, zA, zI, zN, reduceCtorEq, Int.reduceToNat, zE])⟩
  · obtain rfl : i = list.length := by omega
    have hres : reachedN ins = avF ins.length (fun k => decide (k ∈ list)) := by
      refine rchL_of (fun k hk => ?_) hI.z (fun k hk => ?_)
      · have := hI.c k (by rw [List.take_length]; exact hk)
        exact ⟨(hI.o k hk).1, this.1, (hI.o k hk).2⟩
      · exact (hI.c k (by rw [List.take_length]; exact hk)).2
    have hlm := metL_len ins.length list
    simp +contextual -dsimp (maxSteps := 2000000) only [↓SD, SU, SB, Nat.reduceAdd, Nat.reduceBEq, Nat.reduceEqDiff, Nat.reduceLeDiff, Nat.reduceLT, Nat.reduceSub, ↓reduceIte, zA, zI, zN, reduceCtorEq, Int.reduceToNat, zE, Int.reduceEq, Int.reduceLT, Int.reduceLE, Int.reduceNeg, Int.reduceAdd, Int.reduceSub, Nat.lt_irrefl]
    intro w
    refine aLoop_of (X := Nat × Nat) (fun x => ⟨[(10, .row 59 x.2 (avF x.1 fun k => decide (k ∈ list)).length), (60, .row 19 m ins.length), (61, .int .i64 ins.length), (62, .int .i64 x.1)], [(19, ⟨m, false, 4, 1, metL ins.length list⟩), (59, ⟨x.2, false, 3, 1, avN (avF x.1 fun k => decide (k ∈ list))⟩)]⟩) (fun x => x.1 ≤ ins.length) (fun x => ins.length - x.1) (0, w) (Nat.zero_le _) (by simp +contextual -dsimp only [↓SD, SU, SB, Nat.reduceAdd, Nat.reduceBEq, Nat.reduceEqDiff, Nat.reduceLeDiff, Nat.reduceLT, Nat.reduceSub, ↓reduceIte, zA, zI, zN, reduceCtorEq, Int.reduceToNat, zE]; rfl) (by simp +contextual -dsimp only [↓SD, SU, SB, Nat.reduceAdd, Nat.reduceBEq, Nat.reduceEqDiff, Nat.reduceLeDiff, Nat.reduceLT, Nat.reduceSub, ↓reduceIte, zA, zI, zN, reduceCtorEq, Int.reduceToNat, zE]; rfl) ?_
    rintro ⟨k, w⟩ hk
    dsimp only at hk ⊢
    have hlF := avF_len k (fun k => decide (k ∈ list))
    have hsF := avF_succ k (fun k => decide (k ∈ list))
    obtain ⟨F, hF⟩ : ∃ F, F = avF k (fun k => decide (k ∈ list)) := ⟨_, rfl⟩
    rw [← hF] at hlF hsF ⊢
    have hlo2 := avN_len F
    have hto : List.take F.length (avN F) = avN F := List.take_of_length_le (by rw [avN_len]; exact Nat.le_refl _)
    have hTp : ∀ hp, (avN F).map (AV.pur hp) = avN F := fun hp => by simp [avN, AV.pur, AV.pur1]
    have hav : avN F ++ [AV.int .i64 (k : Int)] = avN (F ++ [k]) := by rw [avN_app]; rfl
    by_cases hlt2 : k < ins.length
    · have e3 := metL_get (n := ins.length) list hlt2 .top
      by_cases hkl : k ∈ list
      · rw [if_pos (by simpa using hkl)] at hsF
        simp +contextual -dsimp (maxSteps := 2000000) only [↓SD, SU, SB, Nat.reduceAdd, Nat.reduceBEq, Nat.reduceEqDiff, Nat.reduceLeDiff, Nat.reduceLT, Nat.reduceSub, ↓reduceIte, zA, zI, zN, reduceCtorEq, Int.reduceToNat, zE, Int.reduceEq, Int.reduceLT, Int.reduceLE, Int.reduceNeg, Int.reduceAdd, Int.reduceSub, hlt2, e3, hkl, hlm, hto, hlo2]
        refine ⟨⟨by omega, by unfold maxLen; omega⟩, fun w2 => ⟨by omega, Goes.le ⟨(k + 1, w2), ⟨hlt2, (by first | omega | (simp only; omega))⟩, rfl⟩ (by simp +contextual -dsimp only [↓SD, SU, SB, Nat.reduceAdd, Nat.reduceBEq, Nat.reduceEqDiff, Nat.reduceLeDiff, Nat.reduceLT, Nat.reduceSub, ↓reduceIte, zA, zI, zN, reduceCtorEq, Int.reduceToNat, zE, Int.natCast_add, hsF, List.length_append]) (by simp +contextual -dsimp only [↓SD, SU, SB, Nat.reduceAdd, Nat.reduceBEq, Nat.reduceEqDiff, Nat.reduceLeDiff, Nat.reduceLT, Nat.reduceSub, ↓reduceIte, zA, zI, zN, reduceCtorEq, Int.reduceToNat, zE, hsF, hav])⟩⟩
      · rw [if_neg (by simpa using hkl), List.append_nil] at hsF
        simp +contextual -dsimp (maxSteps := 2000000) only [↓SD, SU, SB, Nat.reduceAdd, Nat.reduceBEq, Nat.reduceEqDiff, Nat.reduceLeDiff, Nat.reduceLT, Nat.reduceSub, ↓reduceIte, zA, zI, zN, reduceCtorEq, Int.reduceToNat, zE, Int.reduceEq, Int.reduceLT, Int.reduceLE, Int.reduceNeg, Int.reduceAdd, Int.reduceSub, hlt2, e3, hkl, hlm]
        refine ⟨by omega, Goes.le ⟨(k + 1, w), ⟨hlt2, (by first | omega | (simp only; omega))⟩, rfl⟩ (by simp +contextual -dsimp only [↓SD, SU, SB, Nat.reduceAdd, Nat.reduceBEq, Nat.reduceEqDiff, Nat.reduceLeDiff, Nat.reduceLT, Nat.reduceSub, ↓reduceIte, zA, zI, zN, reduceCtorEq, Int.reduceToNat, zE, Int.natCast_add, hsF]) (by simp +contextual -dsimp only [↓SD, SU, SB, Nat.reduceAdd, Nat.reduceBEq, Nat.reduceEqDiff, Nat.reduceLeDiff, Nat.reduceLT, Nat.reduceSub, ↓reduceIte, zA, zI, zN, reduceCtorEq, Int.reduceToNat, zE, hsF])⟩
    · obtain rfl : k = ins.length := by omega
      have hRF : R.map (av : Int → AV) = avN F := by rw [hRe, hres, hF, avN_int]
      simp +contextual -dsimp (maxSteps := 2000000) only [↓SD, SU, SB, Nat.reduceAdd, Nat.reduceBEq, Nat.reduceEqDiff, Nat.reduceLeDiff, Nat.reduceLT, Nat.reduceSub, ↓reduceIte, zA, zI, zN, reduceCtorEq, Int.reduceToNat, zE, Int.reduceEq, Int.reduceLT, Int.reduceLE, Int.reduceNeg, Int.reduceAdd, Int.reduceSub, Nat.lt_irrefl]
      refine Goes.frz 59 (Goes.pur 2 (Goes.post [] ?_))
      simp +contextual -dsimp (maxSteps := 2000000) only [↓SD, SU, SB, Nat.reduceAdd, Nat.reduceBEq, Nat.reduceEqDiff, Nat.reduceLeDiff, Nat.reduceLT, Nat.reduceSub, ↓reduceIte, zA, zI, zN, reduceCtorEq, Int.reduceToNat, zE, hTp, hto, hlo2, Nat.le_refl]
      exact hPost _ _ ⟨rfl, .inl (by rw [hRF])⟩
theorem reachedN_len (l : List Ins) : (reachedN l).length ≤ l.length := by
  unfold reachedN rchL
  split
  · simp
  · refine Nat.le_trans (List.length_filter_le _ _) ?_
    simp
theorem reachedL_len (c : Code) : (reachedL c).length ≤ 3000 := by
  unfold reachedL
  split
  · rename_i h
    have := reachedN_len c.ins
    unfold codeB at h
    simp only [Bool.and_eq_true, decide_eq_true_eq] at h
    rw [List.length_map]; omega
  · simp
theorem code_range {S : Nat → Prop} {w : World} {vs : List Value} {c : Code} {xs : List AV} (h : VRs S w mu0 vs (av c :: xs)) : ∀ i ∈ c.ins, -9223372036854775808 ≤ i.a ∧ i.a ≤ 9223372036854775807 := by
  obtain ⟨v, hv⟩ := vrs_at h (i := 0) rfl
  intro i hi
  rw [av_Code] at hv
  cases hv with
  | agg cs _ hl h1 hh =>
    have h0 : (0 : Nat) < cs.size := by simp at hl; omega
    have hs := hh 0 cs[0] _ (Array.getElem?_eq_getElem h0) rfl
    have hm : av i ∈ c.ins.map av := List.mem_map.2 ⟨i, hi, rfl⟩
    obtain ⟨u, hu⟩ := vr_sl_cells hs hm (x := .int .i64 i.a) (by rw [av_Ins]; simp [AV.cells])
    exact vr_int hu
end Go.Proofs.YtabifanjbckchaaGreat
