/-
 A PATTERN AGAINST A RUN-TIME VALUE, by the reference's abstract text: l08Hit. Conditions: none.
-/
import Derived.Test.YtjbcnilllfaipaaGreatYJ19
import Derived.Test.YtjbcnilllfaipaaGreatYJ21
set_option linter.unusedVariables false
set_option linter.unusedSimpArgs false
set_option maxRecDepth 100000
namespace Go.Proofs.YtjbcnilllfaipaaGreat
open Go.RowKit Go.Proofs.YtjbcnilllfaipaaGreat.Av Go.Proofs.YtjbcnilllfaipaaGreat.Ml
open Go.Proofs.YtjbcnilllfaipaaGreat.Av.AVal (av)

theorem O6 (ks : List Px) : ∀ (vs : List EV) (e : EE) (j : Nat), j < ks.length → Cn (ks.take (j + 1)) vs e = if (Cn (ks.take j) vs e).2 = true then EL (ks.getD j (.mk ⟨0, 0, bs []⟩ [])) ((vs.drop j).headD default) (Cn (ks.take j) vs e).1 else Cn (ks.take j) vs e := by
 induction ks with
 | nil => intro vs e j h; simp at h
 | cons k ks ih =>
  intro vs e j h
  cases j with
  | zero =>
   simp only [List.take_succ_cons, List.take_zero, Cn, if_true, List.getD_cons_zero, List.drop_zero]
   by_cases h2 : (EL k (vs.headD default) e).2 = true
   ·rw [if_pos h2, ← h2]
   ·rw [if_neg h2]
    have : (EL k (vs.headD default) e).2 = false := by simpa using h2
    rw [← this]
  | succ j =>
   rw [List.take_succ_cons, List.take_succ_cons, Cn, Cn]
   by_cases h2 : (EL k (vs.headD default) e).2 = true
   ·simp only [if_pos h2]
    rw [ih vs.tail _ j (by simpa using h), List.getD_cons_succ]
    congr 2
    cases vs <;> simp
   ·simp only [if_neg h2]
    rfl
theorem J0 {e : Nat → Option Nat} : ∀ {ks : List Int} {a m : Nat}, D0 e ks a = some m → ∀ j (h : j < ks.length), ∃ c c' : Nat, ks[j] = (c : Int) ∧ e c = some c'
 | [], a, m, h, j, hj => by simp at hj
 | k :: ks, a, m, h, j, hj => by
  unfold D0 at h
  split at h
  ·rename_i hk
   split at h
   ·rename_i c hc
    cases j with
    | zero => exact ⟨a, c, hk, hc⟩
    | succ j => exact J0 h j (by simpa using hj)
   ·cases h
  ·cases h
theorem AeK (nn : Int) (s : ByteArray) (m : Nat) (v : EV) : (DD ⟨3, nn, s⟩ m v).isSome = (decide (v.k = 1) && decide (v.num = nn)) := by
 cases v <;> simp [DD, EV.k, EV.num]
 split <;> simp [*]
theorem AeH (nn : Int) (s : ByteArray) (m : Nat) (v : EV) : (DD ⟨6, nn, s⟩ m v).isSome = decide (v.k = 3) := by
 cases v <;> simp [DD, EV.k]
theorem AeI (nn : Int) (s : ByteArray) (m : Nat) (v : EV) : (DD ⟨5, nn, s⟩ m v).isSome = decide (v.k = 5) := by
 cases v <;> simp [DD, EV.k]
theorem AeJ (nn : Int) (s : ByteArray) (m : Nat) (v : EV) : (¬ v.k = 4 ∧ (0 : Nat) = 0 ∧ (DD ⟨4, nn, s⟩ m v).isSome = false) ∨ (v.k = 4 ∧ v.kA = .Ar ∧ (DD ⟨4, nn, s⟩ m v).isSome = (decide (v.txt = s) && decide (0 = m))) ∨ (∃ a : EV, v.k = 4 ∧ v.kA = .sl ([a].map av) ∧ (DD ⟨4, nn, s⟩ m v).isSome = (decide (v.txt = s) && decide (1 = m))) := by
 cases v
 case EZ t =>
  refine .inr (.inl ⟨rfl, by rw [EV.kA], ?_⟩)
  simp only [DD, EV.txt, Int.reduceEq, if_false]
  by_cases h1 : t = s <;> by_cases h2 : m = 0 <;> simp [h1, h2, eq_comm]
 case Gl t a =>
  refine .inr (.inr ⟨a, rfl, NW _ _, ?_⟩)
  simp only [DD, EV.txt, Int.reduceEq, if_false]
  by_cases h1 : t = s <;> by_cases h2 : m = 1 <;> simp [h1, h2, eq_comm]
 all_goals exact .inl ⟨by simp [EV.k], rfl, by simp [DD]⟩
theorem Mr : ∀ (ks : List Px) (j : Nat) (h : j < ks.length), Px.KH (ks.take j) + ks[j].cnt ≤ Px.KH ks
 | k :: ks, 0, _ => by rw [List.take_zero, Px.KH, Px.KH]; simp
 | k :: ks, j + 1, h => by
  have := Mr ks j (by simpa using h)
  rw [List.take_succ_cons, Px.KH, Px.KH, List.getElem_cons_succ]; omega
theorem AdK {h : Hd} {m : Nat} {v : EV} {vs : List EV} (hk : h.kind = 4 ∨ h.kind = 5) (hf : DD h m v = some vs) : (vs ≠ [] → v.kA = .sl (vs.map av)) ∧ (h.kind = 4 → vs.length = m) ∧ (h.kind = 5 → vs.length = 2) := by
 unfold DD at hf
 rcases hk with hk | hk
 ·simp only [hk, Int.reduceEq, if_false] at hf
  cases v <;> (try dsimp only at hf) <;> first | (cases hf; done) | skip
  ·split at hf <;> cases hf
   rename_i h0
   exact ⟨fun h => absurd rfl h, fun _ => h0.2.symm, fun h => by omega⟩
  ·split at hf <;> cases hf
   rename_i h0
   exact ⟨fun _ => NW _ _, fun _ => h0.2.symm, fun h => by omega⟩
 ·simp only [hk, Int.reduceEq, if_false, if_true] at hf
  cases v <;> (try dsimp only at hf) <;> first | (cases hf; done) | skip
  cases hf
  exact ⟨fun _ => Yf _ _, fun h => by omega, fun _ => rfl⟩
set_option maxHeartbeats 8000000 in
theorem Abk (L : List Bp) (hp : Ft L = true) (hx : Ad.bulk L ≤ 1099511627776) : ∀ (f i e : Nat), DV (B8 L) L.length f i = some e → ∀ (v : EV) (en : EE), en.len + (Dc (phd L) (B8 L) f i).cnt ≤ 1000000000 →
  Ap Tryz.prog 75 [.agg [.sl (L.map av)], .int .i64 i, av v, .sl (en.bs.map av)] (.tup [.sl ((EL (Dc (phd L) (B8 L) f i) v en).1.bs.map av), .bool (EL (Dc (phd L) (B8 L) f i) v en).2])
 | 0, i, e, h => by cases h
 | f + 1, i, e, hE => by
  intro v en hlen
  have CT := Abk L hp hx f
  have hll := Ao L
  unfold DV at hE
  split at hE
  case isFalse => cases hE
  rename_i hi
  have h := hE
  simp only [Ft, Bool.and_eq_true, PF] at hp
  have hn := hp.2 i hi
  simp only [Hq, Bool.and_eq_true] at hn
  have hn := hn.1
  have e1 := getD_map av L i .top hi
  have hgd : L.getD i default = L[i] := by simp [List.getD_eq_getElem?_getD, hi]
  have hK : B8 L i = L[i].kids := by rw [B8, hgd]
  have hH : phd L i = ⟨L[i].kind, L[i].n, L[i].s⟩ := by rw [phd, hgd]
  have hb1 := AW (List.getElem_mem hi)
  have hb2 : Ad.bulk L[i] = Ad.bulk L[i].kind + Ad.bulk L[i].n + (L[i].s.size + 1) + Ad.bulk L[i].kids + 1 := rfl
  have hkl := Ao L[i].kids
  rw [hgd] at hn
  refine Dw.F rfl (by simp; exact ⟨Ac.agg (by simp; exact Aq L), BL _, AVal.clean v, Aq en.bs⟩) (Ac.tup (by simp; exact ⟨Aq _, Ac.bool _⟩)) ?_
  rw [Dc, hH, hK] at hlen ⊢
  rw [hK] at h
  clear hH hK hgd
  generalize L[i] = n at *
  obtain ⟨k, nn, s, kids⟩ := n
  rw [A8] at e1
  dsimp only at *
  rw [Px.cnt] at hlen
  generalize hX : EL (.mk ⟨k, nn, s⟩ (kids.map fun k => Dc (phd L) (B8 L) f k.toNat)) v en = X
  rw [EL] at hX
  dsimp only at hX
  by_cases k1 : k = 1
  ·subst k1
   rw [if_pos rfl] at hX
   subst hX
   simp +contextual -dsimp (maxSteps := 2000000) only [↓SD, SU, simprocAttr, Dw, Aa, hi, e1, AU, AA]
  rw [if_neg k1] at hX
  by_cases k2 : k = 2
  ·subst k2
   rw [if_pos rfl] at hX
   subst hX
   have CW := IU en s v (by omega)
   rw [AU] at CW
   simp +contextual -dsimp (maxSteps := 2000000) only [↓SD, SU, simprocAttr, Dw, Aa, hi, e1, AU, AA, kA1, eA1, kAo, eAo]
   intro w10
   refine Ab _ CW ?_
   simp +contextual -dsimp (maxSteps := 2000000) only [↓SD, SU, simprocAttr, AA]
  rw [if_neg k2] at hX
  obtain ⟨ks, hks⟩ : ∃ ks, ks = kids.map fun k => Dc (phd L) (B8 L) f k.toNat := ⟨_, rfl⟩
  have hkl2 : ks.length = kids.length := by rw [hks, List.length_map]
  obtain ⟨R, hR⟩ : ∃ R : Nat → EE × Bool, R = fun j => match DD ⟨k, nn, s⟩ ks.length v with
   | some vs => Cn (ks.take j) vs en
   | none => (en, false) := ⟨_, rfl⟩
  rw [← hks] at hlen hX
  have hRe : R kids.length = X := by rw [← hX, hR, ← hkl2]; cases DD ⟨k, nn, s⟩ ks.length v <;> simp
  rw [← hRe]
  clear hX hRe
  obtain ⟨vs, hvs⟩ : ∃ vs, vs = (DD ⟨k, nn, s⟩ ks.length v).getD [] := ⟨_, rfl⟩
  have hRl : ∀ j, (R j).1.len ≤ en.len + Px.KH (ks.take j) := fun j => by
   rw [hR]
   cases hf : DD ⟨k, nn, s⟩ ks.length v with
   | none => exact Nat.le_add_right _ _
   | some us => exact MP _ _ _
  have hR0 : R 0 = (en, (DD ⟨k, nn, s⟩ ks.length v).isSome) := by
   rw [hR]
   cases hf : DD ⟨k, nn, s⟩ ks.length v with
   | none => rfl
   | some us => show Cn (ks.take 0) us en = _; rw [List.take_zero, Cn]; rfl
  have hRs : ∀ j (h : j < ks.length), R (j + 1) = if (R j).2 = true then EL ks[j] ((vs.drop j).headD default) (R j).1 else R j := fun j hj => by
   rw [hR, hvs]
   cases hf : DD ⟨k, nn, s⟩ ks.length v with
   | none => rfl
   | some us =>
    have := O6 ks us en j hj
    rw [List.getD_eq_getElem?_getD, List.getElem?_eq_getElem hj] at this
    exact this
  have hRk : ∀ j, (R j).2 = true → (DD ⟨k, nn, s⟩ ks.length v) = some vs := fun j hj => by
   rw [hR] at hj
   rw [hvs]
   cases hf : DD ⟨k, nn, s⟩ ks.length v with
   | none => rw [hf] at hj; cases hj
   | some us => rfl
  have hk : k = 3 ∨ k = 4 ∨ k = 5 ∨ k = 6 := by
   unfold Ec at hn
   dsimp only at hn
   repeat' (split at hn)
   all_goals first | omega | cases hn
  have hkid : k = 5 → kids.length = 2 := fun h5 => by
   subst h5
   simp [Ec] at hn
   exact hn.1.1
  have hkid0 : k = 3 ∨ k = 6 → kids.length = 0 := fun h3 => by
   rcases h3 with h3 | h3 <;> (subst h3; simp [Ec] at hn; simp [hn])
  -- the value of a part
  have hpart : ∀ j (hj : j < kids.length), (R j).2 = true → ∃ u, (vs.drop j).headD default = u ∧ v.kA = .sl (vs.map av) ∧ (vs.map (av : EV → AV)).getD j .top = av u ∧ vs.length = kids.length := fun j hj hb => by
   have hf := hRk j hb
   have h45 : k = 4 ∨ k = 5 := by
    rcases hk with h | h | h | h
    ·have := hkid0 (.inl h); omega
    ·exact .inl h
    ·exact .inr h
    ·have := hkid0 (.inr h); omega
   obtain ⟨f1, f2, f3⟩ := AdK (h := ⟨k, nn, s⟩) h45 hf
   have hl : vs.length = kids.length := by
    rcases h45 with h | h
    ·rw [f2 h, hkl2]
    ·rw [f3 h, hkid h]
   have hj2 : j < vs.length := by omega
   refine ⟨vs[j], ?_, f1 (fun h => by rw [h] at hj2; simp at hj2), getD_map av vs j .top hj2, hl⟩
   rw [List.drop_eq_getElem_cons hj2]; rfl
  have hlo : ∀ j, (R j).1.len + Px.KH ks ≤ 1000000000 + Px.KH (ks.take j) := fun j => by have := hRl j; omega
  clear hRl hR hRk hvs hn
  rcases hk with rfl | rfl | rfl | rfl
  ·rw [AeK] at hR0
   by_cases h1 : v.k = 1 <;> by_cases h2 : v.num = nn
   all_goals first | have g1 := eq_false h1 | have g1 := eq_true h1
   all_goals first | have g2 := eq_false h2 | have g2 := eq_true h2
   all_goals
    have hb0 := hR0
    simp only [g1, g2, decide_true, decide_false, Bool.and_true, Bool.and_false, Bool.false_and, Bool.true_and] at hb0
    clear hR0
    simp +contextual -dsimp (maxSteps := 2000000) only [↓SD, SU, simprocAttr, Dw, Aa, hi, e1, AU, AA, kA1, eA1, g1, g2]
    intro w10
    refine Al (X := Nat) (fun j => ⟨[(3, .sl ((R j).1.bs.map av)), (4, .obj [.sl (L.map av)]), (6, .obj [.int .i64 v.k, .int .i64 v.num, .str v.txt, v.kA, v.eA]), (10, .ptr 10 w10 0 0), (11, .bool (R j).2), (75, .int .i64 kids.length), (76, .int .i64 j)], [(10, ⟨w10, false, 162, 4, [.agg [.int .i64 3, .int .i64 nn, .str s, .sl (kids.map av)]]⟩)]⟩) (fun j => j ≤ kids.length) (fun j => kids.length - j) 0 (Nat.zero_le _) (by simp +contextual -dsimp only [↓SD, SU, simprocAttr, hb0]) (by simp +contextual -dsimp only [↓SD, SU, simprocAttr]) ?_
    intro j hj
    by_cases hlt : j < kids.length
    ·obtain ⟨c, c', e3, e4⟩ := J0 h j hlt
     have e2 := getD_map av kids j .top hlt
     rw [e3, Bo] at e2
     have hRj := hRs j (by omega)
     by_cases hb : (R j).2 = true
     ·obtain ⟨u, hu, hkA, hu2, hvl⟩ := hpart j hlt hb
      have hcg := Mr ks j (by omega)
      have hlj := hlo j
      have hkj : ks[j]'(by omega) = Dc (phd L) (B8 L) f c := by simp only [hks, List.getElem_map, e3]; rfl
      rw [hkj] at hcg hRj
      have CU := CT c c' e4 u (R j).1 (by omega)
      rw [if_pos hb, hu] at hRj
      rw [← hRj] at CU
      rw [AU] at CU hu2
      have hvl2 : j < vs.length := by omega
      simp +contextual -dsimp (maxSteps := 2000000) only [↓SD, SU, simprocAttr, Aa, hlt, hb, e2, hkA, hu2, hvl2, kA1, eA1]
      refine Ab _ CU ?_
      simp +contextual -dsimp (maxSteps := 2000000) only [↓SD, SU, simprocAttr, AA]
      exact ⟨by omega, Af.le ⟨j + 1, ⟨hlt, (by first | omega | (simp only; omega))⟩, rfl⟩ (by simp +contextual -dsimp only [↓SD, SU, simprocAttr, Int.natCast_add, AA]) (by simp +contextual -dsimp only [↓SD, SU, simprocAttr])⟩
     ·rw [if_neg hb] at hRj
      have hb' : (R j).2 = false := by simpa using hb
      simp +contextual -dsimp (maxSteps := 2000000) only [↓SD, SU, simprocAttr, Aa, hlt, hb']
      exact ⟨by omega, Af.le ⟨j + 1, ⟨hlt, (by first | omega | (simp only; omega))⟩, rfl⟩ (by simp +contextual -dsimp only [↓SD, SU, simprocAttr, Int.natCast_add, hRj, hb']) (by simp +contextual -dsimp only [↓SD, SU, simprocAttr])⟩
    ·obtain rfl : j = kids.length := by omega
     simp +contextual -dsimp (maxSteps := 2000000) only [↓SD, SU, simprocAttr, Aa, Nat.lt_irrefl, AA]
  ·have q0 : ((0 : Int) = (kids.length : Int)) = (kids.length = 0) := propext ⟨fun h => by omega, fun h => by omega⟩
   have q1 : ((1 : Int) = (kids.length : Int)) = (kids.length = 1) := propext ⟨fun h => by omega, fun h => by omega⟩
   have q2 : (0 = ks.length) = (kids.length = 0) := propext ⟨fun h => by omega, fun h => by omega⟩
   have q3 : (1 = ks.length) = (kids.length = 1) := propext ⟨fun h => by omega, fun h => by omega⟩
   by_cases h2 : v.txt = s <;> by_cases h3 : kids.length = 0 <;> by_cases h4 : kids.length = 1
   all_goals rcases AeJ nn s ks.length v with ⟨h1, hA, hf⟩ | ⟨h1, hA, hf⟩ | ⟨a0, h1, hA, hf⟩
   all_goals rw [hf] at hR0
   all_goals first | have g1 := eq_false h1 | have g1 := eq_true h1
   all_goals first | have g2 := eq_false h2 | have g2 := eq_true h2
   all_goals first | have g3 := eq_false h3 | have g3 := eq_true h3
   all_goals first | have g4 := eq_false h4 | have g4 := eq_true h4
   all_goals
    have hb0 := hR0
    try simp only [g1, g2, q0, q1, q2, q3, g3, g4, hA, decide_true, decide_false, Bool.and_true, Bool.and_false, Bool.false_and, Bool.true_and] at hb0
    clear hR0
    simp +contextual -dsimp (maxSteps := 2000000) only [↓SD, SU, simprocAttr, Dw, Aa, hi, e1, AU, AA, kA1, eA1, g1, g2, q0, q1, q2, q3, g3, g4, hA]
    intro w10
    refine Al (X := Nat) (fun j => ⟨[(3, .sl ((R j).1.bs.map av)), (4, .obj [.sl (L.map av)]), (6, .obj [.int .i64 v.k, .int .i64 v.num, .str v.txt, v.kA, v.eA]), (10, .ptr 10 w10 0 0), (11, .bool (R j).2), (75, .int .i64 kids.length), (76, .int .i64 j)], [(10, ⟨w10, false, 162, 4, [.agg [.int .i64 4, .int .i64 nn, .str s, .sl (kids.map av)]]⟩)]⟩) (fun j => j ≤ kids.length) (fun j => kids.length - j) 0 (Nat.zero_le _) (by simp +contextual -dsimp only [↓SD, SU, simprocAttr, hb0, hA, AU]) (by simp +contextual -dsimp only [↓SD, SU, simprocAttr]) ?_
    clear hA
    intro j hj
    by_cases hlt : j < kids.length
    ·obtain ⟨c, c', e3, e4⟩ := J0 h j hlt
     have e2 := getD_map av kids j .top hlt
     rw [e3, Bo] at e2
     have hRj := hRs j (by omega)
     by_cases hb : (R j).2 = true
     ·obtain ⟨u, hu, hkA, hu2, hvl⟩ := hpart j hlt hb
      have hcg := Mr ks j (by omega)
      have hlj := hlo j
      have hkj : ks[j]'(by omega) = Dc (phd L) (B8 L) f c := by simp only [hks, List.getElem_map, e3]; rfl
      rw [hkj] at hcg hRj
      have CU := CT c c' e4 u (R j).1 (by omega)
      rw [if_pos hb, hu] at hRj
      rw [← hRj] at CU
      rw [AU] at CU hu2
      have hvl2 : j < vs.length := by omega
      simp +contextual -dsimp (maxSteps := 2000000) only [↓SD, SU, simprocAttr, Aa, hlt, hb, e2, hkA, hu2, hvl2, kA1, eA1]
      refine Ab _ CU ?_
      simp +contextual -dsimp (maxSteps := 2000000) only [↓SD, SU, simprocAttr, AA]
      exact ⟨by omega, Af.le ⟨j + 1, ⟨hlt, (by first | omega | (simp only; omega))⟩, rfl⟩ (by simp +contextual -dsimp only [↓SD, SU, simprocAttr, Int.natCast_add, AA]) (by simp +contextual -dsimp only [↓SD, SU, simprocAttr])⟩
     ·rw [if_neg hb] at hRj
      have hb' : (R j).2 = false := by simpa using hb
      simp +contextual -dsimp (maxSteps := 2000000) only [↓SD, SU, simprocAttr, Aa, hlt, hb']
      exact ⟨by omega, Af.le ⟨j + 1, ⟨hlt, (by first | omega | (simp only; omega))⟩, rfl⟩ (by simp +contextual -dsimp only [↓SD, SU, simprocAttr, Int.natCast_add, hRj, hb']) (by simp +contextual -dsimp only [↓SD, SU, simprocAttr])⟩
    ·obtain rfl : j = kids.length := by omega
     simp +contextual -dsimp (maxSteps := 2000000) only [↓SD, SU, simprocAttr, Aa, Nat.lt_irrefl, AA]
  ·rw [AeI] at hR0
   by_cases h1 : v.k = 5
   all_goals first | have g1 := eq_false h1 | have g1 := eq_true h1
   all_goals
    have hb0 := hR0
    simp only [g1, decide_true, decide_false, Bool.and_true, Bool.and_false, Bool.false_and, Bool.true_and] at hb0
    clear hR0
    simp +contextual -dsimp (maxSteps := 2000000) only [↓SD, SU, simprocAttr, Dw, Aa, hi, e1, AU, AA, kA1, eA1, g1]
    intro w10
    refine Al (X := Nat) (fun j => ⟨[(3, .sl ((R j).1.bs.map av)), (4, .obj [.sl (L.map av)]), (6, .obj [.int .i64 v.k, .int .i64 v.num, .str v.txt, v.kA, v.eA]), (10, .ptr 10 w10 0 0), (11, .bool (R j).2), (75, .int .i64 kids.length), (76, .int .i64 j)], [(10, ⟨w10, false, 162, 4, [.agg [.int .i64 5, .int .i64 nn, .str s, .sl (kids.map av)]]⟩)]⟩) (fun j => j ≤ kids.length) (fun j => kids.length - j) 0 (Nat.zero_le _) (by simp +contextual -dsimp only [↓SD, SU, simprocAttr, hb0]) (by simp +contextual -dsimp only [↓SD, SU, simprocAttr]) ?_
    intro j hj
    by_cases hlt : j < kids.length
    ·obtain ⟨c, c', e3, e4⟩ := J0 h j hlt
     have e2 := getD_map av kids j .top hlt
     rw [e3, Bo] at e2
     have hRj := hRs j (by omega)
     by_cases hb : (R j).2 = true
     ·obtain ⟨u, hu, hkA, hu2, hvl⟩ := hpart j hlt hb
      have hcg := Mr ks j (by omega)
      have hlj := hlo j
      have hkj : ks[j]'(by omega) = Dc (phd L) (B8 L) f c := by simp only [hks, List.getElem_map, e3]; rfl
      rw [hkj] at hcg hRj
      have CU := CT c c' e4 u (R j).1 (by omega)
      rw [if_pos hb, hu] at hRj
      rw [← hRj] at CU
      rw [AU] at CU hu2
      have hvl2 : j < vs.length := by omega
      simp +contextual -dsimp (maxSteps := 2000000) only [↓SD, SU, simprocAttr, Aa, hlt, hb, e2, hkA, hu2, hvl2, kA1, eA1]
      refine Ab _ CU ?_
      simp +contextual -dsimp (maxSteps := 2000000) only [↓SD, SU, simprocAttr, AA]
      exact ⟨by omega, Af.le ⟨j + 1, ⟨hlt, (by first | omega | (simp only; omega))⟩, rfl⟩ (by simp +contextual -dsimp only [↓SD, SU, simprocAttr, Int.natCast_add, AA]) (by simp +contextual -dsimp only [↓SD, SU, simprocAttr])⟩
     ·rw [if_neg hb] at hRj
      have hb' : (R j).2 = false := by simpa using hb
      simp +contextual -dsimp (maxSteps := 2000000) only [↓SD, SU, simprocAttr, Aa, hlt, hb']
      exact ⟨by omega, Af.le ⟨j + 1, ⟨hlt, (by first | omega | (simp only; omega))⟩, rfl⟩ (by simp +contextual -dsimp only [↓SD, SU, simprocAttr, Int.natCast_add, hRj, hb']) (by simp +contextual -dsimp only [↓SD, SU, simprocAttr])⟩
    ·obtain rfl : j = kids.length := by omega
     simp +contextual -dsimp (maxSteps := 2000000) only [↓SD, SU, simprocAttr, Aa, Nat.lt_irrefl, AA]
  ·rw [AeH] at hR0
   by_cases h1 : v.k = 3
   all_goals first | have g1 := eq_false h1 | have g1 := eq_true h1
   all_goals
    have hb0 := hR0
    simp only [g1, decide_true, decide_false, Bool.and_true, Bool.and_false, Bool.false_and, Bool.true_and] at hb0
    clear hR0
    simp +contextual -dsimp (maxSteps := 2000000) only [↓SD, SU, simprocAttr, Dw, Aa, hi, e1, AU, AA, kA1, eA1, g1]
    intro w10
    refine Al (X := Nat) (fun j => ⟨[(3, .sl ((R j).1.bs.map av)), (4, .obj [.sl (L.map av)]), (6, .obj [.int .i64 v.k, .int .i64 v.num, .str v.txt, v.kA, v.eA]), (10, .ptr 10 w10 0 0), (11, .bool (R j).2), (75, .int .i64 kids.length), (76, .int .i64 j)], [(10, ⟨w10, false, 162, 4, [.agg [.int .i64 6, .int .i64 nn, .str s, .sl (kids.map av)]]⟩)]⟩) (fun j => j ≤ kids.length) (fun j => kids.length - j) 0 (Nat.zero_le _) (by simp +contextual -dsimp only [↓SD, SU, simprocAttr, hb0]) (by simp +contextual -dsimp only [↓SD, SU, simprocAttr]) ?_
    intro j hj
    by_cases hlt : j < kids.length
    ·obtain ⟨c, c', e3, e4⟩ := J0 h j hlt
     have e2 := getD_map av kids j .top hlt
     rw [e3, Bo] at e2
     have hRj := hRs j (by omega)
     by_cases hb : (R j).2 = true
     ·obtain ⟨u, hu, hkA, hu2, hvl⟩ := hpart j hlt hb
      have hcg := Mr ks j (by omega)
      have hlj := hlo j
      have hkj : ks[j]'(by omega) = Dc (phd L) (B8 L) f c := by simp only [hks, List.getElem_map, e3]; rfl
      rw [hkj] at hcg hRj
      have CU := CT c c' e4 u (R j).1 (by omega)
      rw [if_pos hb, hu] at hRj
      rw [← hRj] at CU
      rw [AU] at CU hu2
      have hvl2 : j < vs.length := by omega
      simp +contextual -dsimp (maxSteps := 2000000) only [↓SD, SU, simprocAttr, Aa, hlt, hb, e2, hkA, hu2, hvl2, kA1, eA1]
      refine Ab _ CU ?_
      simp +contextual -dsimp (maxSteps := 2000000) only [↓SD, SU, simprocAttr, AA]
      exact ⟨by omega, Af.le ⟨j + 1, ⟨hlt, (by first | omega | (simp only; omega))⟩, rfl⟩ (by simp +contextual -dsimp only [↓SD, SU, simprocAttr, Int.natCast_add, AA]) (by simp +contextual -dsimp only [↓SD, SU, simprocAttr])⟩
     ·rw [if_neg hb] at hRj
      have hb' : (R j).2 = false := by simpa using hb
      simp +contextual -dsimp (maxSteps := 2000000) only [↓SD, SU, simprocAttr, Aa, hlt, hb']
      exact ⟨by omega, Af.le ⟨j + 1, ⟨hlt, (by first | omega | (simp only; omega))⟩, rfl⟩ (by simp +contextual -dsimp only [↓SD, SU, simprocAttr, Int.natCast_add, hRj, hb']) (by simp +contextual -dsimp only [↓SD, SU, simprocAttr])⟩
    ·obtain rfl : j = kids.length := by omega
     simp +contextual -dsimp (maxSteps := 2000000) only [↓SD, SU, simprocAttr, Aa, Nat.lt_irrefl, AA]
end Go.Proofs.YtjbcnilllfaipaaGreat
