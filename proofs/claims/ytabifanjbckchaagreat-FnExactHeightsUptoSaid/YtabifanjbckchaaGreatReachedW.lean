/-
  Reached OF THE PROGRAM, by abstract texts. Conditions: none.
-/
import Derived.Test.YtabifanjbckchaaGreatCodeOk
import Derived.Test.YtabifanjbckchaaGreatPackS
import Derived.Test.YtabifanjbckchaaGreatSortI
import Derived.Test.YtabifanjbckchaaGreatOInt
import Derived.Test.YtabifanjbckchaaGreatIrReachC
set_option linter.unusedVariables false
set_option linter.unusedSimpArgs false
set_option maxRecDepth 100000
namespace Go.Proofs.YtabifanjbckchaaGreat
open Go.RowKit Go.Proofs.YtabifanjbckchaaGreat.Av Go.Proofs.YtabifanjbckchaaGreat.Ml
open Go.Proofs.YtabifanjbckchaaGreat.Av.AVal (av)
open OVal (ov oh on)

/-- where an instruction leads; whether one goes on behind it -/
def tgtL (i : Ins) : List Int := if leadB i.op = true then [i.a] else if i.op = 20 then [i.b] else []
def goesB (i : Ins) : Bool := !decide (i.op = 12) && !decide (i.op = 11) && !decide (i.op = 17) && !decide (i.op = 21)
def insAt (l : List Ins) (k : Nat) : Ins := l.getD k ⟨0, 0, 0, ⟨#[]⟩⟩
def scR (l : List Ins) (k : Nat) : List Nat := (tgtL (insAt l k)).map Int.toNat ++ if goesB (insAt l k) = true then [k + 1] else []
def badR (l : List Ins) (k : Nat) : Prop := goesB (insAt l k) = true ∧ l.length ≤ k + 1
instance (l : List Ins) (k : Nat) : Decidable (badR l k) := inferInstanceAs (Decidable (_ ∧ _))
noncomputable def reachedN (l : List Ins) : List Nat := rchL (scR l) (badR l) l.length
open Classical in
noncomputable def reachedL (c : Code) : List Int := if codeB c = true then (reachedN c.ins).map fun k : Nat => (k : Int) else []

theorem goes_ok (i : Ins) : CallsF Tryz.prog 42 [av i] (.bool (goesB i)) := by
  refine fun_impl_GoesOn rfl (by simp; exact AVal.clean i) (AvPure.bool _) ?_
  simp +contextual -dsimp (maxSteps := 2000000) only [↓SD, SU, SB, Nat.reduceAdd, Nat.reduceBEq, Nat.reduceEqDiff, Nat.reduceLeDiff, Nat.reduceLT, Nat.reduceSub, ↓reduceIte, zA, zI, zN, reduceCtorEq, Int.reduceToNat, zE, Int.reduceEq, Int.reduceLT, Int.reduceLE, Int.reduceNeg, Int.reduceAdd, Int.reduceSub, ir_impl_GoesOn, rs_impl_GoesOn, av_Ins]
  (repeat' (first | intro _ | refine And.intro ?_ ?_))
  all_goals first | (simp [goesB, *]; done) | trace_state
theorem goesS_ok (i : Ins) : CallsF Tryz.prog 35 [av i] (.bool (goesB i)) := by
  refine fun_spec_GoesOn rfl (by simp; exact AVal.clean i) (AvPure.bool _) ?_
  simp +contextual -dsimp (maxSteps := 2000000) only [↓SD, SU, SB, Nat.reduceAdd, Nat.reduceBEq, Nat.reduceEqDiff, Nat.reduceLeDiff, Nat.reduceLT, Nat.reduceSub, ↓reduceIte, zA, zI, zN, reduceCtorEq, Int.reduceToNat, zE, Int.reduceEq, Int.reduceLT, Int.reduceLE, Int.reduceNeg, Int.reduceAdd, Int.reduceSub, ir_spec_GoesOn, rs_spec_GoesOn, av_Ins]
  (repeat' (first | intro _ | refine And.intro ?_ ?_))
  all_goals first | (simp [goesB, *]; done) | trace_state
def TgtPost (i : Ins) (r : AV) (hp' : Hp) : Prop := hp' = [] ∧ (r = .sl ((tgtL i).map av) ∨ (r = .nils ∧ tgtL i = []))
theorem targets_ok (i : Ins) : CallsF Tryz.prog 41 [av i] (.sl ((tgtL i).map av)) := by
  refine callsF_of_H (Post := TgtPost i) ?_ (by simp; exact AVal.clean i) (lav_clean _) (fun r hp' ⟨_, h⟩ => by
    rcases h with h | ⟨h, h2⟩
    · exact .inl h
    · exact .inr ⟨h, by rw [h2]; rfl⟩)
  refine funH_impl_Targets rfl ?_
  have CL := leads_ok i.op
  have hT : tgtL i = if leadB i.op = true then [i.a] else if i.op = 20 then [i.b] else [] := rfl
  obtain ⟨t, ht⟩ : ∃ t, t = leadB i.op := ⟨_, rfl⟩
  rw [← ht] at CL hT
  simp +contextual -dsimp (maxSteps := 2000000) only [↓SD, SU, SB, Nat.reduceAdd, Nat.reduceBEq, Nat.reduceEqDiff, Nat.reduceLeDiff, Nat.reduceLT, Nat.reduceSub, ↓reduceIte, zA, zI, zN, reduceCtorEq, Int.reduceToNat, zE, Int.reduceEq, Int.reduceLT, Int.reduceLE, Int.reduceNeg, Int.reduceAdd, Int.reduceSub, ir_impl_Targets, rs_impl_Targets, av_Ins]
  refine aCallK_of _ CL ?_
  cases t
  · by_cases h20 : i.op = 20
    · simp +contextual -dsimp (maxSteps := 2000000) only [↓SD, SU, SB, Nat.reduceAdd, Nat.reduceBEq, Nat.reduceEqDiff, Nat.reduceLeDiff, Nat.reduceLT, Nat.reduceSub, ↓reduceIte, zA, zI, zN, reduceCtorEq, Int.reduceToNat, zE, Int.reduceEq, Int.reduceLT, Int.reduceLE, Int.reduceNeg, Int.reduceAdd, Int.reduceSub, h20]
      refine Goes.post [] ?_
      simp +contextual -dsimp (maxSteps := 2000000) only [↓SD, SU, SB, Nat.reduceAdd, Nat.reduceBEq, Nat.reduceEqDiff, Nat.reduceLeDiff, Nat.reduceLT, Nat.reduceSub, ↓reduceIte, zA, zI, zN, reduceCtorEq, Int.reduceToNat, zE]
      exact ⟨rfl, .inl (by rw [hT, if_neg (by decide), if_pos h20]; rfl)⟩
    · simp +contextual -dsimp (maxSteps := 2000000) only [↓SD, SU, SB, Nat.reduceAdd, Nat.reduceBEq, Nat.reduceEqDiff, Nat.reduceLeDiff, Nat.reduceLT, Nat.reduceSub, ↓reduceIte, zA, zI, zN, reduceCtorEq, Int.reduceToNat, zE, Int.reduceEq, Int.reduceLT, Int.reduceLE, Int.reduceNeg, Int.reduceAdd, Int.reduceSub, h20]
      refine Goes.post [] ?_
      simp +contextual -dsimp (maxSteps := 2000000) only [↓SD, SU, SB, Nat.reduceAdd, Nat.reduceBEq, Nat.reduceEqDiff, Nat.reduceLeDiff, Nat.reduceLT, Nat.reduceSub, ↓reduceIte, zA, zI, zN, reduceCtorEq, Int.reduceToNat, zE]
      exact ⟨rfl, .inr ⟨rfl, by rw [hT, if_neg (by decide), if_neg h20]⟩⟩
  · simp +contextual -dsimp (maxSteps := 2000000) only [↓SD, SU, SB, Nat.reduceAdd, Nat.reduceBEq, Nat.reduceEqDiff, Nat.reduceLeDiff, Nat.reduceLT, Nat.reduceSub, ↓reduceIte, zA, zI, zN, reduceCtorEq, Int.reduceToNat, zE, Int.reduceEq, Int.reduceLT, Int.reduceLE, Int.reduceNeg, Int.reduceAdd, Int.reduceSub]
    refine Goes.post [] ?_
    simp +contextual -dsimp (maxSteps := 2000000) only [↓SD, SU, SB, Nat.reduceAdd, Nat.reduceBEq, Nat.reduceEqDiff, Nat.reduceLeDiff, Nat.reduceLT, Nat.reduceSub, ↓reduceIte, zA, zI, zN, reduceCtorEq, Int.reduceToNat, zE]
    exact ⟨rfl, .inl (by rw [hT, if_pos rfl]; rfl)⟩

def avN (l : List Nat) : List AV := l.map fun k : Nat => AV.int .i64 (k : Int)
theorem avN_len (l : List Nat) : (avN l).length = l.length := by simp [avN]
theorem avN_int (l : List Nat) : avN l = (l.map fun k : Nat => (k : Int)).map av := by simp [avN, av_int]
theorem avN_app (a b : List Nat) : avN (a ++ b) = avN a ++ avN b := by simp [avN]
def metL (n : Nat) (out : List Nat) : List AV := (List.range n).map fun k => AV.bool (decide (k ∈ out))
theorem metL_len (n : Nat) (out : List Nat) : (metL n out).length = n := by simp [metL]
theorem metL_get {n k : Nat} (out : List Nat) (h : k < n) (d : AV) : (metL n out).getD k d = .bool (decide (k ∈ out)) := by
  simp [metL, List.getD_eq_getElem?_getD, h]
theorem metL_set {n k : Nat} (out : List Nat) : (metL n out).set k (.bool true) = metL n (out ++ [k]) := by
  apply List.ext_getElem?
  intro j
  simp only [metL, List.getElem?_set, List.length_map, List.length_range, List.getElem?_map]
  by_cases hjn : j < n
  · rw [List.getElem?_range hjn]
    by_cases hkj : k = j
    · subst hkj; simp [hjn]
    · simp [hkj, Ne.symm hkj]
  · rw [List.getElem?_eq_none (by simpa using hjn)]
    by_cases hkj : k = j
    · subst hkj; simp [hjn]
    · simp [hkj]
theorem metL_zero (n : Nat) : metL n [] = List.replicate n (.bool false) := by
  apply List.ext_getElem?
  intro j
  simp only [metL, List.getElem?_map, List.getElem?_replicate]
  by_cases hjn : j < n
  · rw [List.getElem?_range hjn]; simp [hjn]
  · rw [List.getElem?_eq_none (by simpa using hjn)]; simp [hjn]

/-- what is known at the head of the program's loop -/
structure RInv (l : List Ins) (out todo : List Nat) : Prop where
  o : ∀ k ∈ out, Rch (scR l) k ∧ ¬ badR l k ∧ k < l.length
  t : ∀ k ∈ todo, Rch (scR l) k ∧ k < l.length
  s : ∀ k ∈ out, ∀ j ∈ scR l k, j ∈ out ∨ j ∈ todo
  z : 0 ∈ out ∨ 0 ∈ todo
  n : out.Nodup
theorem subN_len : ∀ {l m : List Nat}, l.Nodup → (∀ x ∈ l, x ∈ m) → l.length ≤ m.length
  | [], m, _, _ => Nat.zero_le _
  | x :: l, m, hn, hs => by
    have hx : x ∈ m := hs x (by simp)
    have h2 := List.nodup_cons.1 hn
    have h1 := subN_len (l := l) (m := m.erase x) h2.2 (fun y hy => (List.mem_erase_of_ne (fun e => h2.1 (by rw [← e]; exact hy))).2 (hs y (by simp [hy])))
    rw [List.length_erase_of_mem hx] at h1
    have := List.length_pos_of_mem hx
    simp only [List.length_cons]
    omega
theorem nodup_bound {n : Nat} {l : List Nat} (hn : l.Nodup) (h : ∀ k ∈ l, k < n) : l.length ≤ n := by
  have := subN_len hn (m := List.range n) fun k hk => List.mem_range.2 (h k hk)
  simpa using this
theorem RInv.len {l : List Ins} {out todo : List Nat} (h : RInv l out todo) : out.length ≤ l.length := nodup_bound h.n fun k hk => (h.o k hk).2.2
/-- what right code says of where it leads -/
theorem tgt_in {c : Code} (h : codeB c = true) {k : Nat} (hk : k < c.ins.length) : ∀ t ∈ tgtL (insAt c.ins k), 0 ≤ t ∧ t < c.ins.length := by
  have h1 : insB c.ins.length c.pats.length c.ins[k] = true := by
    unfold codeB at h
    simp only [Bool.and_eq_true] at h
    exact List.all_eq_true.1 h.2 _ (List.getElem_mem hk)
  have e : insAt c.ins k = c.ins[k] := by simp [insAt, List.getD_eq_getElem?_getD, hk]
  rw [e]
  generalize c.ins[k] = i at *
  intro t ht
  unfold tgtL at ht
  unfold insB at h1
  by_cases hL : leadB i.op = true
  · rw [if_pos hL] at ht h1
    simp only [List.mem_cons, List.not_mem_nil, or_false] at ht
    simp only [Bool.and_eq_true, decide_eq_true_eq] at h1
    subst ht; omega
  · rw [if_neg hL] at ht h1
    by_cases h20 : i.op = 20
    · rw [if_pos h20] at ht h1
      simp only [List.mem_cons, List.not_mem_nil, or_false] at ht
      simp only [Bool.and_eq_true, decide_eq_true_eq] at h1
      subst ht; omega
    · rw [if_neg h20] at ht; cases ht
theorem RInv.skip {l : List Ins} {out t : List Nat} {k : Nat} (h : RInv l out (t ++ [k])) (hk : k ∈ out) : RInv l out t where
  o := h.o
  t := fun j hj => h.t j (List.mem_append_left _ hj)
  s := fun a ha j hj => by
    rcases h.s a ha j hj with e | e
    · exact .inl e
    · rcases List.mem_append.1 e with e | e
      · exact .inr e
      · simp at e; subst e; exact .inl hk
  z := by
    rcases h.z with e | e
    · exact .inl e
    · rcases List.mem_append.1 e with e | e
      · exact .inr e
      · simp at e; subst e; exact .inl hk
  n := h.n
theorem RInv.step {l : List Ins} {out t m : List Nat} {k : Nat} (h : RInv l out (t ++ [k])) (hk : k ∉ out) (hb : ¬ badR l k) (hm : m = scR l k) (hin : ∀ j ∈ m, j < l.length) : RInv l (out ++ [k]) (t ++ m) where
  o := fun a ha => by
    rcases List.mem_append.1 ha with e | e
    · exact h.o a e
    · simp at e; subst e
      have := h.t a (by simp)
      exact ⟨this.1, hb, this.2⟩
  t := fun a ha => by
    rcases List.mem_append.1 ha with e | e
    · exact h.t a (List.mem_append_left _ e)
    · refine ⟨.step (h.t k (by simp)).1 (by rw [← hm]; exact e), hin a e⟩
  s := fun a ha j hj => by
    rcases List.mem_append.1 ha with e | e
    · rcases h.s a e j hj with e2 | e2
      · exact .inl (List.mem_append_left _ e2)
      · rcases List.mem_append.1 e2 with e3 | e3
        · exact .inr (List.mem_append_left _ e3)
        · simp at e3; subst e3; exact .inl (by simp)
    · simp at e; subst e
      exact .inr (List.mem_append_right _ (by rw [hm]; exact hj))
  z := by
    rcases h.z with e | e
    · exact .inl (List.mem_append_left _ e)
    · rcases List.mem_append.1 e with e | e
      · exact .inr (List.mem_append_left _ e)
      · simp at e; subst e; exact .inl (by simp)
  n := by
    rw [List.nodup_append]
    refine ⟨h.n, by simp, fun a ha b hb e => ?_⟩
    simp at hb; subst hb; subst e; exact hk ha
theorem reachedN_bad {l : List Ins} {k : Nat} (h : Rch (scR l) k) (hb : badR l k) : reachedN l = [] := rchL_bad h hb
structure RS where
  out : List Nat
  todo : List Nat
  m : Nat
  u : Nat
  v : Nat
set_option maxHeartbeats 2000000 in
theorem implReached_ok (nm : Nat) (c : Code) (hx : Bulk.bulk c ≤ 1048576) : CallsH Tryz.prog 23 [av c] [] (ToPost nm (reachedL c)) := by
  obtain ⟨⟨hl, hq⟩, hs, hp⟩ := code_small hx
  refine funH_impl_Reached rfl ?_
  have C := implCodeOk_ok c hx
  rw [av_Code] at C
  simp +contextual -dsimp (maxSteps := 2000000) only [↓SD, SU, SB, Nat.reduceAdd, Nat.reduceBEq, Nat.reduceEqDiff, Nat.reduceLeDiff, Nat.reduceLT, Nat.reduceSub, ↓reduceIte, zA, zI, zN, reduceCtorEq, Int.reduceToNat, zE, ir_impl_Reached, rs_impl_Reached, av_Code, map_len]
  cases hb : codeB c
  case false =>
    rw [hb] at C
    refine aCallK_of _ C ?_
    simp +contextual -dsimp (maxSteps := 2000000) only [↓SD, SU, SB, Nat.reduceAdd, Nat.reduceBEq, Nat.reduceEqDiff, Nat.reduceLeDiff, Nat.reduceLT, Nat.reduceSub, ↓reduceIte, zA, zI, zN, reduceCtorEq, Int.reduceToNat, zE]
    refine Goes.new 2 nm 3 1 rfl fun v => ?_
    refine Goes.post (oh nm (fun _ => v) ([] : List Int)) ?_
    rw [oh_ints]
    simp +contextual -dsimp (maxSteps := 2000000) only [↓SD, SU, SB, Nat.reduceAdd, Nat.reduceBEq, Nat.reduceEqDiff, Nat.reduceLeDiff, Nat.reduceLT, Nat.reduceSub, ↓reduceIte, zA, zI, zN, reduceCtorEq, Int.reduceToNat, zE, hg_eq]
    exact ⟨fun _ => v, by simp [reachedL, hb, ov_list], by rw [reachedL, if_neg (by rw [hb]; decide), oh_ints]; rfl⟩
  rw [hb] at C
  refine aCallK_of _ C ?_
  have hn : 1 ≤ c.ins.length ∧ c.ins.length ≤ 3000 := by
    have := hb
    unfold codeB at this
    simp only [Bool.and_eq_true, decide_eq_true_eq] at this
    omega
  have hin := fun {k} (hk : k < c.ins.length) => tgt_in hb hk
  have hR : reachedL c = (reachedN c.ins).map fun k : Nat => (k : Int) := by rw [reachedL, if_pos hb]
  rw [hR]
  obtain ⟨ins, pats⟩ := c
  simp only at hn hin hl ⊢
  clear hb hR hs hp hq C hx
  simp +contextual -dsimp (maxSteps := 2000000) only [↓SD, SU, SB, Nat.reduceAdd, Nat.reduceBEq, Nat.reduceEqDiff, Nat.reduceLeDiff, Nat.reduceLT, Nat.reduceSub, ↓reduceIte, zA, zI, zN, reduceCtorEq, Int.reduceToNat, zE, map_len]
  refine ⟨by omega, fun m u v => ?_⟩
  refine aLoop_of (X := RS) (fun x => ⟨[(1, .obj [.sl (ins.map av), .sl (pats.map av)]), (3, .row 14 x.m ins.length), (4, .row 15 x.u x.todo.length), (5, .row 16 x.v x.out.length)], [(14, ⟨x.m, false, 4, 1, metL ins.length x.out⟩), (15, ⟨x.u, false, 3, 1, avN x.todo⟩), (16, ⟨x.v, false, 3, 1, avN x.out⟩)]⟩) (fun x => RInv ins x.out x.todo ∧ x.todo.length ≤ 2 * x.out.length + 1) (fun x => 3 * (ins.length - x.out.length) + x.todo.length) ⟨[], [0], m, u, v⟩ ⟨⟨fun k h => (by cases h), fun k h => (by simp at h; subst h; exact ⟨.zero, by omega⟩), fun k h => (by cases h), .inr (by simp), List.nodup_nil⟩, by simp⟩ (by simp +contextual -dsimp only [↓SD, SU, SB, Nat.reduceAdd, Nat.reduceBEq, Nat.reduceEqDiff, Nat.reduceLeDiff, Nat.reduceLT, Nat.reduceSub, ↓reduceIte, zA, zI, zN, reduceCtorEq, Int.reduceToNat, zE]) (by simp +contextual -dsimp only [↓SD, SU, SB, Nat.reduceAdd, Nat.reduceBEq, Nat.reduceEqDiff, Nat.reduceLeDiff, Nat.reduceLT, Nat.reduceSub, ↓reduceIte, zA, zI, zN, reduceCtorEq, Int.reduceToNat, zE, metL_zero]; simp [avN]) ?_
  rintro ⟨out, todo, m, u, v⟩ ⟨hI, hbt⟩
  dsimp only at hI hbt ⊢
  have hol := hI.len
  have hlo := avN_len out
  have hlm := metL_len ins.length out
  rcases List.eq_nil_or_concat todo with rfl | ⟨t, k, rfl⟩
  · have h0 : 0 ∈ out := by rcases hI.z with h | h; · exact h
                            · cases h
    have hcl : ∀ k ∈ out, ∀ j ∈ scR ins k, j ∈ out := fun k hk j hj => by
      rcases hI.s k hk j hj with h | h
      · exact h
      · cases h
    have hsl := sortI_len (out.map fun k : Nat => (k : Int))
    rw [List.length_map] at hsl
    simp +contextual -dsimp (maxSteps := 2000000) only [↓SD, SU, SB, Nat.reduceAdd, Nat.reduceBEq, Nat.reduceEqDiff, Nat.reduceLeDiff, Nat.reduceLT, Nat.reduceSub, ↓reduceIte, zA, zI, zN, reduceCtorEq, Int.reduceToNat, zE, Int.reduceEq, Int.reduceLT, Int.reduceLE, Int.reduceNeg, Int.reduceAdd, Int.reduceSub, false_and]
    have CS := SortInt_ok 16 v (out.map fun k : Nat => (k : Int)) (by rw [List.length_map]; omega)
    rw [← avN_int, List.length_map] at CS
    refine aCallH_of [16] CS (by simp +contextual -dsimp only [↓SD, SU, SB, Nat.reduceAdd, Nat.reduceBEq, Nat.reduceEqDiff, Nat.reduceLeDiff, Nat.reduceLT, Nat.reduceSub, ↓reduceIte, zA, zI, zN, reduceCtorEq, Int.reduceToNat, zE]) ?_
    rintro r hp' ⟨rfl, rfl⟩
    have hres : sortI (out.map fun k : Nat => (k : Int)) = (reachedN ins).map fun k : Nat => (k : Int) := rchL_sort (fun k hk => hI.o k hk) h0 hcl hI.n rfl
    rw [hres] at hsl ⊢
    obtain ⟨R, hR⟩ : ∃ R, R = (reachedN ins).map fun k : Nat => (k : Int) := ⟨_, rfl⟩
    rw [← hR] at hsl ⊢
    simp +contextual -dsimp (maxSteps := 2000000) only [↓SD, SU, SB, Nat.reduceAdd, Nat.reduceBEq, Nat.reduceEqDiff, Nat.reduceLeDiff, Nat.reduceLT, Nat.reduceSub, ↓reduceIte, zA, zI, zN, reduceCtorEq, Int.reduceToNat, zE]
    refine Goes.ren 2 16 nm (v := v) (n := out.length) rfl hg_eq rfl fun v' => ?_
    refine Goes.post (oh nm (fun _ => v') R) ?_
    rw [oh_ints]
    simp +contextual -dsimp (maxSteps := 2000000) only [↓SD, SU, SB, Nat.reduceAdd, Nat.reduceBEq, Nat.reduceEqDiff, Nat.reduceLeDiff, Nat.reduceLT, Nat.reduceSub, ↓reduceIte, zA, zI, zN, reduceCtorEq, Int.reduceToNat, zE, hg_eq, false_and]
    exact ⟨fun _ => v', by rw [ov_list, hsl], by rw [oh_ints]⟩
  · rw [List.concat_eq_append] at hI hbt ⊢
    have hk := hI.t k (by simp)
    have hkl := hk.2
    have htl : (t ++ [k]).length = t.length + 1 := by simp
    rw [htl] at hbt
    have e1 : (avN (t ++ [k])).getD t.length .top = .int .i64 (k : Int) := by simp [avN, List.getD_eq_getElem?_getD]
    have e2 := metL_get out hkl .top
    have e3 : (t.length : Int) + 1 - 1 = t.length := by omega
    have e4 : (0 : Int) < (t.length : Int) + 1 := by omega
    have htk : List.take t.length (avN (t ++ [k])) = avN t := by rw [avN_app, List.take_append_of_le_length (by rw [avN_len]; exact Nat.le_refl _), List.take_of_length_le (by rw [avN_len]; exact Nat.le_refl _)]
    have htl2 : t.length ≤ (avN (t ++ [k])).length := by rw [avN_len, htl]; omega
    have hto : List.take out.length (avN out) = avN out := List.take_of_length_le (by rw [avN_len]; exact Nat.le_refl _)
    have el := getD_map av ins k .top hkl
    have hav : ∀ l : List Nat, ∀ j : Nat, avN l ++ [AV.int .i64 (j : Int)] = avN (l ++ [j]) := fun l j => by rw [avN_app]; rfl
    have hml : (avN (t ++ [k])).length = t.length + 1 := by rw [avN_len, htl]
    by_cases hko : k ∈ out
    · simp +contextual -dsimp (maxSteps := 2000000) only [↓SD, SU, SB, Nat.reduceAdd, Nat.reduceBEq, Nat.reduceEqDiff, Nat.reduceLeDiff, Nat.reduceLT, Nat.reduceSub, ↓reduceIte, zA, zI, zN, reduceCtorEq, Int.reduceToNat, zE, Int.reduceEq, Int.reduceLT, Int.reduceLE, Int.reduceNeg, Int.reduceAdd, Int.reduceSub, htl, false_and, Int.natCast_add, e1, e2, e3, e4, hko, hkl, hlm, hml]
      refine ⟨by omega, by omega, by omega, by omega, ?_⟩
      refine Goes.trim 15 t.length rfl ?_
      exact Goes.le ⟨⟨out, t, m, u, v⟩, ⟨⟨hI.skip hko, by dsimp only; omega⟩, by dsimp only; omega⟩, rfl⟩ (by simp +contextual -dsimp only [↓SD, SU, SB, Nat.reduceAdd, Nat.reduceBEq, Nat.reduceEqDiff, Nat.reduceLeDiff, Nat.reduceLT, Nat.reduceSub, ↓reduceIte, zA, zI, zN, reduceCtorEq, Int.reduceToNat, zE]) (by simp +contextual -dsimp only [↓SD, SU, SB, Nat.reduceAdd, Nat.reduceBEq, Nat.reduceEqDiff, Nat.reduceLeDiff, Nat.reduceLT, Nat.reduceSub, ↓reduceIte, zA, zI, zN, reduceCtorEq, Int.reduceToNat, zE, htk])
    · have hset := metL_set (n := ins.length) (k := k) out
      have ei : insAt ins k = ins[k] := by simp [insAt, List.getD_eq_getElem?_getD, hkl]
      have hti := hin hkl
      rw [ei] at hti
      have hsc : scR ins k = (tgtL ins[k]).map Int.toNat ++ if goesB ins[k] = true then [k + 1] else [] := by rw [scR, ei]
      have hbad : badR ins k ↔ (goesB ins[k] = true ∧ ins.length ≤ k + 1) := by rw [badR, ei]
      have hRk : Rch (scR ins) k := hk.1
      have hTN : (tgtL ins[k]).map (av : Int → AV) = avN ((tgtL ins[k]).map Int.toNat) := by
        have hid : (tgtL ins[k]).map ((fun k : Nat => (k : Int)) ∘ Int.toNat) = (tgtL ins[k]).map id := List.map_congr_left fun x hx => by have := hti x hx; simp; omega
        have h2 : ((tgtL ins[k]).map Int.toNat).map (fun k : Nat => (k : Int)) = tgtL ins[k] := by rw [List.map_map, hid, List.map_id]
        rw [avN_int, h2]
      have hT3 : (tgtL ins[k]).length ≤ 1 := by unfold tgtL; split <;> (try split) <;> simp
      have CT := targets_ok ins[k]
      have CG := goes_ok ins[k]
      generalize ins[k] = i at *
      rw [hTN] at CT
      obtain ⟨T, hT⟩ : ∃ T, T = (tgtL i).map Int.toNat := ⟨_, rfl⟩
      have hTin : ∀ j ∈ T, j < ins.length := fun j hj => by
        rw [hT] at hj
        obtain ⟨x, hx, rfl⟩ := List.mem_map.1 hj
        have := hti x hx
        omega
      have hTl : T.length ≤ 1 := by rw [hT, List.length_map]; exact hT3
      rw [← hT] at CT hsc
      have hTc : ∀ e ∈ avN T, e.cells.length = 1 := fun e he => by
        obtain ⟨j, _, rfl⟩ := List.mem_map.1 he; rfl
      have hTp : ∀ hp, (avN T).map (AV.pur hp) = avN T := fun hp => by simp [avN, AV.pur, AV.pur1]
      have hlT := avN_len T
      rw [av_Ins] at CT CG
      simp +contextual -dsimp (maxSteps := 2000000) only [↓SD, SU, SB, Nat.reduceAdd, Nat.reduceBEq, Nat.reduceEqDiff, Nat.reduceLeDiff, Nat.reduceLT, Nat.reduceSub, ↓reduceIte, zA, zI, zN, reduceCtorEq, Int.reduceToNat, zE, Int.reduceEq, Int.reduceLT, Int.reduceLE, Int.reduceNeg, Int.reduceAdd, Int.reduceSub, htl, false_and, Int.natCast_add, e1, e2, e3, e4, hko, hkl, hlm, hto, hml, el, av_Ins, map_len, hlo, hset]
      refine ⟨by omega, by omega, by omega, by omega, ⟨by omega, by unfold maxLen; omega⟩, fun v1 v2 => ?_⟩
      refine aCallK_of _ CT ?_
      simp +contextual -dsimp (maxSteps := 2000000) only [↓SD, SU, SB, Nat.reduceAdd, Nat.reduceBEq, Nat.reduceEqDiff, Nat.reduceLeDiff, Nat.reduceLT, Nat.reduceSub, ↓reduceIte, zA, zI, zN, reduceCtorEq, Int.reduceToNat, zE, Int.reduceEq, Int.reduceLT, Int.reduceLE, Int.reduceNeg, Int.reduceAdd, Int.reduceSub, hTp, hml, hlT, htk]
      refine ⟨⟨by omega, hTc, by omega, by unfold maxLen; omega⟩, fun v3 => ?_⟩
      refine aCallK_of _ CG ?_
      have htT : List.take (t.length + T.length) (avN t ++ avN T) = avN (t ++ T) := by rw [← avN_app, List.take_of_length_le (by rw [avN_len, List.length_append]; exact Nat.le_refl _)]
      have hlen2 : (avN t ++ avN T).length = t.length + T.length := by rw [List.length_append, avN_len, avN_len]
      have hbd := fun (hg : goesB i = true) (h : ins.length ≤ k + 1) => reachedN_bad hRk (hbad.2 ⟨hg, h⟩)
      generalize goesB i = g at *
      cases g
      · rw [if_neg (by decide), List.append_nil] at hsc
        have hI2 := hI.step hko (fun h => by have := (hbad.1 h).1; cases this) hsc.symm hTin
        have hl2 := hI2.len
        rw [List.length_append] at hl2
        simp only [List.length_cons, List.length_nil] at hl2
        simp +contextual -dsimp (maxSteps := 2000000) only [↓SD, SU, SB, Nat.reduceAdd, Nat.reduceBEq, Nat.reduceEqDiff, Nat.reduceLeDiff, Nat.reduceLT, Nat.reduceSub, ↓reduceIte, zA, zI, zN, reduceCtorEq, Int.reduceToNat, zE, Int.reduceEq, Int.reduceLT, Int.reduceLE, Int.reduceNeg, Int.reduceAdd, Int.reduceSub]
        exact Goes.le ⟨⟨out ++ [k], t ++ T, m, v3, v1⟩, ⟨⟨hI2, by simp only [List.length_append, List.length_cons, List.length_nil]; omega⟩, by simp only [List.length_append, List.length_cons, List.length_nil]; omega⟩, rfl⟩ (by simp +contextual -dsimp only [↓SD, SU, SB, Nat.reduceAdd, Nat.reduceBEq, Nat.reduceEqDiff, Nat.reduceLeDiff, Nat.reduceLT, Nat.reduceSub, ↓reduceIte, zA, zI, zN, reduceCtorEq, Int.reduceToNat, zE, List.length_append]) (by simp +contextual -dsimp only [↓SD, SU, SB, Nat.reduceAdd, Nat.reduceBEq, Nat.reduceEqDiff, Nat.reduceLeDiff, Nat.reduceLT, Nat.reduceSub, ↓reduceIte, zA, zI, zN, reduceCtorEq, Int.reduceToNat, zE, avN_app, hav])
      · rw [if_pos rfl] at hsc
        by_cases hend : ins.length ≤ k + 1
        · have hend' : (ins.length : Int) ≤ (k : Int) + 1 := by omega
          rw [hbd rfl hend]
          simp +contextual -dsimp (maxSteps := 2000000) only [↓SD, SU, SB, Nat.reduceAdd, Nat.reduceBEq, Nat.reduceEqDiff, Nat.reduceLeDiff, Nat.reduceLT, Nat.reduceSub, ↓reduceIte, zA, zI, zN, reduceCtorEq, Int.reduceToNat, zE, Int.reduceEq, Int.reduceLT, Int.reduceLE, Int.reduceNeg, Int.reduceAdd, Int.reduceSub, map_len, hend']
          refine ⟨by omega, ?_⟩
          refine Goes.new 2 nm 3 1 rfl fun v => ?_
          refine Goes.post (oh nm (fun _ => v) ([] : List Int)) ?_
          rw [oh_ints]
          simp +contextual -dsimp (maxSteps := 2000000) only [↓SD, SU, SB, Nat.reduceAdd, Nat.reduceBEq, Nat.reduceEqDiff, Nat.reduceLeDiff, Nat.reduceLT, Nat.reduceSub, ↓reduceIte, zA, zI, zN, reduceCtorEq, Int.reduceToNat, zE, hg_eq, false_and]
          exact ⟨fun _ => v, by rw [ov_list]; rfl, by rw [oh_ints]; rfl⟩
        · have hend' : ¬ (ins.length : Int) ≤ (k : Int) + 1 := by omega
          have hI2 := hI.step (m := T ++ [k + 1]) hko (fun h => hend (hbad.1 h).2) hsc.symm (fun j hj => by
            rcases List.mem_append.1 hj with h | h
            · exact hTin j h
            · simp at h; omega)
          have hl2 := hI2.len
          rw [List.length_append] at hl2
          simp only [List.length_cons, List.length_nil] at hl2
          simp +contextual -dsimp (maxSteps := 2000000) only [↓SD, SU, SB, Nat.reduceAdd, Nat.reduceBEq, Nat.reduceEqDiff, Nat.reduceLeDiff, Nat.reduceLT, Nat.reduceSub, ↓reduceIte, zA, zI, zN, reduceCtorEq, Int.reduceToNat, zE, Int.reduceEq, Int.reduceLT, Int.reduceLE, Int.reduceNeg, Int.reduceAdd, Int.reduceSub, map_len, hend', hlen2, htT]
          refine ⟨by omega, by omega, ⟨by omega, by unfold maxLen; omega⟩, fun v4 => ?_⟩
          have hf : avN (t ++ T) ++ [AV.int .i64 ((k : Int) + 1)] = avN (t ++ (T ++ [k + 1])) := by
            have := hav (t ++ T) (k + 1)
            rw [List.append_assoc] at this
            rw [← this]; rfl
          exact Goes.le ⟨⟨out ++ [k], t ++ (T ++ [k + 1]), m, v4, v1⟩, ⟨⟨hI2, by simp only [List.length_append, List.length_cons, List.length_nil]; omega⟩, by simp only [List.length_append, List.length_cons, List.length_nil]; omega⟩, rfl⟩ (by simp +contextual -dsimp only [↓SD, SU, SB, Nat.reduceAdd, Nat.reduceBEq, Nat.reduceEqDiff, Nat.reduceLeDiff, Nat.reduceLT, Nat.reduceSub, ↓reduceIte, zA, zI, zN, reduceCtorEq, Int.reduceToNat, zE, List.length_append]; try simp [Nat.add_assoc]) (by simp +contextual -dsimp only [↓SD, SU, SB, Nat.reduceAdd, Nat.reduceBEq, Nat.reduceEqDiff, Nat.reduceLeDiff, Nat.reduceLT, Nat.reduceSub, ↓reduceIte, zA, zI, zN, reduceCtorEq, Int.reduceToNat, zE, hf, hav])
end Go.Proofs.YtabifanjbckchaaGreat
