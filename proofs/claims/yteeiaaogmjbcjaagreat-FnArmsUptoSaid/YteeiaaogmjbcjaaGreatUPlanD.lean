/-
 AsksOf OF THE PROGRAM, by its abstract text. Conditions: none.
-/
import Derived.Test.YteeiaaogmjbcjaaGreatUPlanC
import Derived.Test.YteeiaaogmjbcjaaGreatUJ20
import Derived.Test.YteeiaaogmjbcjaaGreatUJ18
import Derived.Test.YteeiaaogmjbcjaaGreatUJ16
set_option linter.unusedVariables false
set_option linter.unusedSimpArgs false
set_option maxRecDepth 100000
namespace Go.Proofs.YteeiaaogmjbcjaaGreat
open Go.RowKit Go.Proofs.YteeiaaogmjbcjaaGreat.Av Go.Proofs.YteeiaaogmjbcjaaGreat.Ml
open Go.Proofs.YteeiaaogmjbcjaaGreat.Av.AVal (av)
open OVal (ov oh on)

theorem Vd (q : Pat) (hx : AE.bulk q.nodes ≤ 1048576) : AJ Tryz.prog 40 [av q] (.bool (!Dy q.nodes)) := by
 refine GV.F rfl (by simp; exact AVal.clean q) (Ap.bool _) ?_
 simp +contextual -dsimp only [↓SD, SU, simprocAttr, -Nat.reduceMul, GV, IU]
 refine Ag _ (Qy q.nodes hx) ?_
 simp +contextual -dsimp only [↓SD, SU, simprocAttr, -Nat.reduceMul]
theorem Ic {q : Pat} (h : Dy q.nodes = true) : pxN (B6 q.nodes 0) = q.nodes.length ∧ q.nodes.length ≤ 600 ∧ 0 < q.nodes.length ∧ ∀ i, i < q.nodes.length → ∀ k ∈ BK q.nodes i, (i : Int) < k ∧ k < q.nodes.length := by
 obtain ⟨pl, pt, _⟩ := I2 h
 have hpk : ∀ i, i < q.nodes.length → ∀ k ∈ BK q.nodes i, (i : Int) < k ∧ k < q.nodes.length := fun i hi k hk => IZ pt hi hk
 exact ⟨XE pt hpk (by omega), pl.2, by omega, hpk⟩
theorem GG : ∀ (i : Nat) (l : List Px), (A8 i l).length = l.length
 | _, [] => rfl
 | i, _ :: l => by rw [A8, List.length_cons, List.length_cons, GG (i + 1) l]
theorem Mt : ∀ (i : Nat) (l : List Pat), (∀ q ∈ l, Dy q.nodes = true) → wtR (A8 i (l.map fun q => B6 q.nodes 0)) + 1 ≤ AE.bulk l
 | _, [], _ => by simp [A8, wtR, AE.bulk]
 | i, q :: l, h => by
  have h1 := Mt (i + 1) l (fun q hq => h q (List.mem_cons_of_mem _ hq))
  have h2 := FG (B6 q.nodes 0) []
  have h3 := (Ic (h q (by simp))).1
  have h4 := BJ q.nodes
  rw [List.map_cons, A8]
  simp only [wtR, AE.bulk, List.map_cons, List.sum_cons] at h1 h4 ⊢
  omega
theorem Qa {m : Nat} {ks : List Px} (ih : ∀ k ∈ ks, ∀ p t, t ∈ Bu k p → t.path.length ≤ p.length + pxN k) : ∀ p i t, t ∈ AR ks p i → t.path.length ≤ p.length + 1 + Bg ks := by
 induction ks with
 | nil => intro p i t h; rw [AR] at h; cases h
 | cons k ks ihk =>
  intro p i t h
  rw [AR, List.mem_append] at h
  rw [Bg]
  rcases h with h | h
  ·have := ih k (by simp) _ t h
   rw [List.length_append, List.length_singleton] at this
   omega
  ·have := ihk (fun k hk => ih k (List.mem_cons_of_mem _ hk)) p (i + 1) t h
   omega
theorem Lg : ∀ (q : Px) (p : List Int) (t : Tst), t ∈ Bu q p → t.path.length ≤ p.length + pxN q := Px.ind fun n ks ih p t h => by
 rw [Bu] at h
 rw [pxN]
 split at h
 ·cases h
 ·rcases List.mem_cons.1 h with rfl | h
  ·simp only; omega
  ·have := Qa (m := 0) ih p 0 t h
   omega
theorem KS : ∀ (i : Nat) (l : List Px) (r : BI), r ∈ A8 i l → ∃ q ∈ l, r.AA = Bu q []
 | _, [], r, h => by rw [A8] at h; cases h
 | i, q :: l, r, h => by
  rw [A8] at h
  rcases List.mem_cons.1 h with rfl | h
  ·exact ⟨q, by simp, rfl⟩
  ·obtain ⟨q', h1, h2⟩ := KS (i + 1) l r h
   exact ⟨q', List.mem_cons_of_mem _ h1, h2⟩
theorem Rz {i : Nat} {l : List Pat} (h : ∀ q ∈ l, Dy q.nodes = true) : RowsIn (A8 i (l.map fun q => B6 q.nodes 0)) := fun r hr t ht => by
 obtain ⟨q, hq, he⟩ := KS i _ r hr
 obtain ⟨p, hp, rfl⟩ := List.mem_map.1 hq
 rw [he] at ht
 have h1 := Lg _ _ t ht
 have h2 := Ic (h p hp)
 simp only [List.length_nil] at h1
 omega
def Ug (nm : Nat) (o : Option (List Ask)) (r : AV) (hp' : Hp) : Prop := ∃ vs, r = .tup [ov nm vs (⟨o.getD []⟩ : Ek), .bool o.isSome] ∧ hp' = oh nm vs (⟨o.getD []⟩ : Ek)
structure PoS where
 j : Nat
 u : Nat
set_option maxHeartbeats 4000000 in
theorem Ob (nm : Nat) (l : List Pat) (hx : AE.bulk l ≤ 1048576) : AH Tryz.prog 11 [.sl (l.map av)] [] (Ug nm (Dd l)) := by
 have hbl := BJ l
 have hne : ∀ {Post : AV → Hp → Prop}, (∀ r hp', Post r hp' → r = .tup [.agg [.Au], .bool false] ∧ hp' = []) → AH Tryz.prog 11 [.sl (l.map av)] [] Post → AH Tryz.prog 11 [.sl (l.map av)] [] (Ug nm none) := fun h0 h => Gp h fun r hp' hr => by
  obtain ⟨rfl, rfl⟩ := h0 r hp' hr
  refine Ai.Ac5 0 0 0 (sub nm 0) 98 8 rfl rfl rfl fun u => ?_
  refine Ai.le (t := ⟨[(0, .tup [.agg [.row (sub nm 0) u 0], .bool false])], [(sub nm 0, ⟨u, false, 98, 8, []⟩)]⟩) ⟨fun _ => u, rfl, rfl⟩ (by simp +contextual -dsimp only [↓SD, SU, simprocAttr, -Nat.reduceMul]) ⟨Cm, trivial⟩
 have C1 := Jf l 40 [] (fun q => !Dy q.nodes) (by omega) (by simp) (by intro hp; rfl) (fun q hq => Vd q (by have h : AE.bulk q.nodes + 1 + 1 ≤ AE.bulk l := IQ hq; omega))
 by_cases h0 : l = []
 ·have ho : Dd l = none := by unfold Dd; rw [if_pos (.inl h0)]
  rw [ho]
  refine hne (Post := fun r hp' => r = .tup [.agg [.Au], .bool false] ∧ hp' = []) (fun _ _ h => h) (Db.H rfl ?_)
  have h00 : (l.length : Int) = 0 := by rw [h0]; rfl
  simp +contextual -dsimp only [↓SD, SU, simprocAttr, -Nat.reduceMul, Db, Aa, h00]
  intro u
  refine Ai.post [] ?_
  simp +contextual -dsimp only [↓SD, SU, simprocAttr, -Nat.reduceMul]
 have h00 : ¬ (l.length : Int) = 0 := fun e => h0 (List.eq_nil_of_length_eq_zero (by omega))
 cases ha : l.any fun q => !Dy q.nodes with
 | true =>
  have ho : Dd l = none := by unfold Dd; rw [if_pos (.inr ha)]
  rw [ho]
  rw [ha] at C1
  refine hne (Post := fun r hp' => r = .tup [.agg [.Au], .bool false] ∧ hp' = []) (fun _ _ h => h) (Db.H rfl ?_)
  simp +contextual -dsimp only [↓SD, SU, simprocAttr, -Nat.reduceMul, Db, Aa, h00]
  intro u
  refine Ag _ C1 ?_
  simp +contextual -dsimp only [↓SD, SU, simprocAttr, -Nat.reduceMul]
  refine Ai.post [] ?_
  simp +contextual -dsimp only [↓SD, SU, simprocAttr, -Nat.reduceMul]
 | false =>
  rw [ha] at C1
  have hall : ∀ q ∈ l, Dy q.nodes = true := fun q hq => by have := List.any_eq_false.1 ha q hq; simpa using this
  obtain ⟨f, hf⟩ : ∃ f : Pat → Px, f = fun q => B6 q.nodes 0 := ⟨_, rfl⟩
  have hwt := Mt 0 l hall
  have hin := Rz (i := 0) hall
  rw [← hf] at hwt hin
  obtain ⟨P, hP⟩ : ∃ P, P = A9 (wtR (A8 0 (l.map f)) + 1) 0 (A8 0 (l.map f)) := ⟨_, rfl⟩
  have ho : Dd l = if 400 < P.length then none else some P := by unfold Dd; rw [if_neg (by rw [ha]; simp [h0]), ← hf]; dsimp only; rw [← hP]
  have hPl := EZ (wtR (A8 0 (l.map f)) + 1) 0 (A8 0 (l.map f))
  have CP := fun (nm v : Nat) => Zf nm v (wtR (A8 0 (l.map f)) + 1) (A8 0 (l.map f)) [] 0 (by omega) (by omega) hin (by simp)
  rw [← hP] at hPl
  unfold FF at CP
  simp only [List.length_nil, Nat.zero_add, ← hP, List.nil_append] at CP
  have hP1 : 0 < P.length := by
   rw [hP, A9, if_neg (by omega)]
   cases A8 0 (l.map f) with
   | nil => simp [CE]
   | cons r rs =>
    rw [CE]
    cases r.AA with
    | nil => simp [DZ]
    | cons t ts => simp [DZ]
  have hrl : (A8 0 (l.map f)).length = l.length := by rw [GG, List.length_map]
  have hP0 : ¬ P.length = 0 := by omega
  have m1 : ∀ w, Dt P.length w = .row 36 w P.length := fun w => if_neg hP0
  have m2 : ∀ w es, C6 P.length w es = [(36, ⟨w, false, 98, 8, es⟩)] := fun w es => if_neg hP0
  have m3 : ∀ w, Dt 0 w = .Au := fun w => rfl
  have m4 : ∀ w es, C6 0 w es = [] := fun w es => rfl
  unfold C0 at CP
  simp only [m1, m2, m3, m4] at CP
  clear hP
  rw [ho]
  have hrun : ∀ Post : AV → Hp → Prop, (∀ w vs, (P.length : Int) ≤ 400 → Post (.tup [.agg [.row 36 w P.length], .bool true]) ((36, ⟨w, false, 98, 8, ovL (sub nm 0) vs 0 P⟩) :: ohL (sub nm 0) vs 0 P)) → (¬ (P.length : Int) ≤ 400 → Post (.tup [.agg [.Au], .bool false]) []) → AH Tryz.prog 11 [.sl (l.map av)] [] Post := fun Post hp1 hp2 => by
   refine Db.H rfl ?_
   simp +contextual -dsimp only [↓SD, SU, simprocAttr, -Nat.reduceMul, Db, Aa, h00]
   intro u2
   refine Ag _ C1 ?_
   simp +contextual -dsimp only [↓SD, SU, simprocAttr, -Nat.reduceMul]
   intro u32
   refine AG (X := PoS) (fun s => ⟨[(2, .ptr 2 u2 0 0), (4, .row 32 s.u s.j), (17, .sl (l.map av)), (18, .int .i64 l.length), (19, .int .i64 s.j)], [(2, ⟨u2, false, 44, 1, [.agg [.Au]]⟩), (32, ⟨s.u, false, 85, 2, (A8 0 ((l.take s.j).map f)).map av⟩)]⟩) (fun s => s.j ≤ l.length) (fun s => l.length - s.j) ⟨0, u32⟩ (Nat.zero_le _) (by simp +contextual -dsimp only [↓SD, SU, simprocAttr, -Nat.reduceMul, List.take_zero, List.length_map]) (by simp +contextual -dsimp only [↓SD, SU, simprocAttr, -Nat.reduceMul, List.take_zero, List.map_nil, A8]) ?_
   rintro ⟨j, u⟩ hj
   dsimp only at hj ⊢
   by_cases hlt : j < l.length
   ·have e1 := getD_map av l j .top hlt
    have hq := hall l[j] (List.getElem_mem hlt)
    have hps := Ic hq
    have hbq : AE.bulk l[j].nodes + 1 + 1 ≤ AE.bulk l := IQ (List.getElem_mem hlt)
    have GQ := SI l[j].nodes hps.2.2.2 (by omega) l[j].nodes.length 0 hps.2.2.1 (by omega)
    have TQ := Jx (a := [av (B6 l[j].nodes 0)]) (b := []) (Un (B6 l[j].nodes 0) [] (by simp only [List.length_nil]; omega))
    have ht : A8 0 ((l.take (j + 1)).map f) = A8 0 ((l.take j).map f) ++ [⟨Bu (B6 l[j].nodes 0) [], (j : Int)⟩] := by
     rw [List.take_succ_eq_append_getElem hlt, List.map_append, List.map_cons, List.map_nil, JB, hf]
     simp [Nat.min_eq_left (Nat.le_of_lt hlt)]
    have hRl : (A8 0 ((l.take j).map f)).length = j := by rw [GG]; simp; omega
    have hRt : List.take j ((A8 0 ((l.take j).map f)).map av) = (A8 0 ((l.take j).map f)).map av := List.take_of_length_le (by rw [List.length_map]; omega)
    rw [show Dc (phd l[j].nodes) (BK l[j].nodes) l[j].nodes.length 0 = B6 l[j].nodes 0 from rfl] at GQ
    rw [List.cons_append, List.nil_append] at TQ
    generalize B6 l[j].nodes 0 = T at *
    generalize Bu T [] = TT at *
    generalize l[j] = q at *
    generalize A8 0 ((l.take j).map f) = R at *
    simp +contextual -dsimp only [↓SD, SU, simprocAttr, -Nat.reduceMul, hlt, Aa, e1, IU]
    intro u6
    refine Ag _ GQ ?_
    simp +contextual -dsimp only [↓SD, SU, simprocAttr, -Nat.reduceMul, L7]
    refine Ag _ TQ ?_
    simp +contextual -dsimp only [↓SD, SU, simprocAttr, -Nat.reduceMul, hRt, hRl]
    exact ⟨⟨by rw [List.length_map]; omega, by omega, by unfold maxLen; omega⟩, fun u' => ⟨by omega, Ai.le ⟨⟨j + 1, u'⟩, ⟨hlt, (by first | omega | (simp only; omega))⟩, rfl⟩ (by simp +contextual -dsimp only [↓SD, SU, simprocAttr, -Nat.reduceMul, Int.natCast_add]) (by simp +contextual -dsimp only [↓SD, SU, simprocAttr, -Nat.reduceMul, ht, List.map_append, Ez])⟩⟩
   ·obtain rfl : j = l.length := by omega
    rw [List.take_length]
    obtain ⟨R, hR⟩ : ∃ R, R = A8 0 (l.map f) := ⟨_, rfl⟩
    rw [← hR] at hrl CP ⊢
    have hRm : ∀ hp, (R.map (av : BI → AV)).map (AV.pur hp) = R.map av := fun hp => Ab _ hp
    have hRt : List.take l.length (R.map (av : BI → AV)) = R.map av := List.take_of_length_le (by rw [List.length_map]; omega)
    simp +contextual -dsimp only [↓SD, SU, simprocAttr, -Nat.reduceMul, Nat.lt_irrefl]
    intro v35
    refine BM (Ai.frz 32 (Ai.pur 4 (Ai.here ?_)))
    simp +contextual -dsimp only [↓SD, SU, simprocAttr, -Nat.reduceMul, hRm, hRt, List.length_map, hrl, Nat.le_refl]
    refine Ak [35] (CP (sub nm 0) v35) (by simp +contextual -dsimp only [↓SD, SU, simprocAttr, -Nat.reduceMul]) ?_
    rintro r hp' ⟨w, vs, rfl, rfl⟩ H hH
    have g35 : Aw H 35 = some ⟨v35, false, 88, 1, [.agg [.row 36 w P.length]]⟩ := by rw [hH]; exact Cm
    have g36 : Aw H 36 = some ⟨w, false, 98, 8, ovL (sub nm 0) vs 0 P⟩ := by rw [hH]; rfl
    have g2 : Aw H 2 = some ⟨u2, false, 44, 1, [.agg [.Au]]⟩ := by
     rw [hH, List.cons_append, A4 (by omega), List.append_assoc, List.cons_append, A4 (by omega), List.nil_append, BV (fun p hp e => by
      obtain ⟨j, _, hj⟩ := Cs hp
      have := hj.ge
      omega), BE (by simp)]
     rfl
    have gO : ∀ p ∈ ohL (sub nm 0) vs 0 P, Aw H p.1 = some p.2 := fun p hp => by
     obtain ⟨j, _, hj⟩ := Cs hp
     have := hj.ge
     rw [hH, List.cons_append, A4 (by omega), List.append_assoc, List.cons_append, A4 (by omega), List.nil_append]
     exact IK (AM.1 (Eo (sub nm 0) vs 0 P) p hp)
    clear hH
    have hE : ∀ x, Bf ((2, x) :: H) (ohL (sub nm 0) vs 0 P) := fun x => AM.2 fun p hp => by
     obtain ⟨j, _, hj⟩ := Cs hp
     have := hj.ge
     rw [A4 (by omega)]
     exact gO p hp
    obtain ⟨E, hEe⟩ : ∃ E, E = ovL (sub nm 0) vs 0 P := ⟨_, rfl⟩
    have hEl : E.length = P.length := by rw [hEe, Dv]
    have hp1' := hp1 w vs
    rw [← hEe] at hp1' g36
    by_cases hbig : 400 < (P.length : Int)
    ·simp +contextual -dsimp only [↓SD, SU, simprocAttr, -Nat.reduceMul, hRm, hRt, List.length_map, hrl, Nat.le_refl, g35, g36, g2, hEl, hbig]
     refine Ai.post [] ?_
     simp +contextual -dsimp only [↓SD, SU, simprocAttr, -Nat.reduceMul, hbig]
     exact hp2 (by omega)
    ·simp +contextual -dsimp only [↓SD, SU, simprocAttr, -Nat.reduceMul, hRm, hRt, List.length_map, hrl, Nat.le_refl, g35, g36, g2, hEl, hbig]
     refine Ai.post ((36, ⟨w, false, 98, 8, E⟩) :: ohL (sub nm 0) vs 0 P) ?_
     simp +contextual -dsimp only [↓SD, SU, simprocAttr, -Nat.reduceMul, g36, hE]
     exact hp1' (by omega)
  by_cases hbig : 400 < P.length
  ·rw [if_pos hbig]
   refine hne (Post := fun r hp' => r = .tup [.agg [.Au], .bool false] ∧ hp' = []) (fun _ _ h => h) (hrun _ (fun w vs h => by omega) (fun _ => ⟨rfl, rfl⟩))
  ·rw [if_neg hbig]
   refine Gp (Post := fun r hp' => ∃ w vs, r = .tup [.agg [.row 36 w P.length], .bool true] ∧ hp' = ((36, ⟨w, false, 98, 8, ovL (sub nm 0) vs 0 P⟩) :: ohL (sub nm 0) vs 0 P)) (hrun _ (fun w vs h => ⟨w, vs, rfl, rfl⟩) (fun h => by omega)) ?_
   rintro r hp' ⟨w, vs, rfl, rfl⟩
   refine Ai.Ac2 0 0 0 36 (sub nm 0) (v := w) (n := P.length) rfl rfl rfl Cm rfl fun v' => ?_
   obtain ⟨H', hH'⟩ : ∃ H', H' = ((sub nm 0, ⟨v', false, 98, 8, ovL (sub nm 0) vs 0 P⟩) :: BS [36] ((36, ⟨w, false, 98, 8, ovL (sub nm 0) vs 0 P⟩) :: ohL (sub nm 0) vs 0 P) : Hp) := ⟨_, rfl⟩
   have hle := WT (α := Ask) (nm := sub nm 0) (j := 36) (l := P) (vs := vs) (by omega) hH'
   dsimp only
   rw [← hH']
   refine Ai.le (t := ⟨[(0, .tup [.agg [.row (sub nm 0) v' P.length], .bool true])], oh (sub nm 0) (glue (sub nm 0) (fun k => if k = sub nm 0 then v' else vs k) vs) P⟩) ?_ (by simp +contextual -dsimp only [↓SD, SU, simprocAttr, -Nat.reduceMul]) hle
   exact ⟨_, by rw [Option.getD_some, V7]; rw [← (Mb (nm := sub nm 0) (vs := vs) (v' := v') P).1]; rfl, rfl⟩
end Go.Proofs.YteeiaaogmjbcjaaGreat
