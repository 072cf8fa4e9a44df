/-
 Hit OF THE REFERENCE, by its abstract text. Conditions: none.
-/
import Derived.Test.YteeiaaogmjbcjaaGreatKJ37
set_option linter.unusedVariables false
set_option linter.unusedSimpArgs false
set_option maxRecDepth 100000
namespace Go.Proofs.YteeiaaogmjbcjaaGreat
open Go.RowKit Go.Proofs.YteeiaaogmjbcjaaGreat.Av Go.Proofs.YteeiaaogmjbcjaaGreat.Ml
open Go.Proofs.YteeiaaogmjbcjaaGreat.Av.AVal (av)

theorem Qq {e : Nat → Option Nat} {n : Nat} (hle : ∀ a m, e a = some m → a < m ∧ m ≤ n) (he : ∀ a m, e a = some m → ∀ i, a ≤ i → i < m → ∃ m', e i = some m') : ∀ {ks : List Int} {nx m : Nat}, Ce e ks nx = some m → ∀ i, nx ≤ i → i < m → ∃ m', e i = some m'
 | [], nx, m, h, i, h1, h2 => by rw [Ce] at h; cases h; omega
 | k :: ks, nx, m, h, i, h1, h2 => by
  rw [Ce] at h
  split at h
  ·cases hc : e nx with
   | none => rw [hc] at h; cases h
   | some m1 =>
    rw [hc] at h
    by_cases hi : i < m1
    ·exact he nx m1 hc i h1 hi
    ·exact Qq hle he h i (by omega) h2
  ·cases h
theorem Up (K : Nat → List Int) (n : Nat) : ∀ (f a m : Nat), B3 K n f a = some m → ∀ i, a ≤ i → i < m → ∃ m', B3 K n f i = some m'
 | 0, a, m, h, i, _, _ => by rw [B3] at h; cases h
 | f + 1, a, m, h, i, h1, h2 => by
  by_cases hi : i = a
  ·exact ⟨m, by rw [hi]; exact h⟩
  rw [B3] at h
  split at h
  ·obtain ⟨m', hm⟩ := Qq (Fx K n f) (Up K n f) h i (by omega) h2
   exact ⟨m', Uq K n f i m' hm⟩
  ·cases h
theorem Si {K : Nat → List Int} {n : Nat} (h : Du K n = true) {i : Nat} (hi : i < n) : ∃ m, B3 K n (n + 1) i = some m :=
 Up K n (n + 1) 0 n (of_decide_eq_true h) i (Nat.zero_le _) hi

def Ka (q d : Px) : AV := match DX q d with
 | none => .tup [.Aq, .bool false]
 | some l => .tup [if q.hd.kind = 1 then .Aq else .sl ((l.map fun x => (⟨BI x⟩ : Data)).map av), .bool true]
theorem QA (q d : Px) : Aj (Ka q d) := by
 unfold Ka
 split
 ·exact Aj.tup (by simp; exact ⟨Aj.Aq, Aj.bool _⟩)
 ·refine Aj.tup ?_
  simp only [List.mem_cons, List.not_mem_nil, or_false]
  rintro x (rfl | rfl)
  ·split
   ·exact Aj.Aq
   ·exact Aw _
  ·exact Aj.bool _
theorem Aa8 {Q : List AU} {D : List AY} {n : AU} {v : AY} (hn : Cy Q n = true) (hv : Bb D v = true) (h1 : ¬ n.kind = 1) (h2 : ¬ n.kind = 2) (hk : n.kind = v.kind) :
  (n.n = v.n ∧ n.s = v.s ∧ n.kids.length = v.kids.length) ↔ (n.kind = 3 → n.n = v.n) ∧ (n.kind = 4 → n.s = v.s ∧ n.kids.length = v.kids.length) := by
 unfold Cy at hn
 unfold Bb at hv
 rw [← hk] at hv
 by_cases c6 : n.kind = 6
 ·simp [c6] at hn hv
  simp [c6, hn, hv]
 by_cases c3 : n.kind = 3
 ·simp [c3] at hn hv
  simp [c3, hn, hv]
 by_cases c4 : n.kind = 4
 ·simp [c4] at hn hv
  simp [c4, hn, hv]
 by_cases c5 : n.kind = 5
 ·simp [c5] at hn hv
  simp [c5, hn, hv]
 ·simp [c6, h1, h2, c3, c4, c5] at hn
theorem Qz {q d : Px} {b : List Px} (h : DX q d = some b) : (b = [] ∧ Ka q d = .tup [.Aq, .bool true]) ∨ Ka q d = .tup [.sl ((b.map fun x => (⟨BI x⟩ : Data)).map av), .bool true] := by
 cases q with | mk n ks =>
 unfold Ka
 rw [h]
 by_cases h1 : n.kind = 1
 ·rw [DX, if_pos h1] at h
  cases h
  exact .inl ⟨rfl, by simp [Px.hd, h1]⟩
 ·exact .inr (by simp [Px.hd, h1])
theorem QB {q d : Px} (h : DX q d = none) : Ka q d = .tup [.Aq, .bool false] := by unfold Ka; rw [h]
theorem LI {hp : Hp} {K : AV → Hp → Prop} (i j v n : Nat) (ty : TypeId) (e b : Nat) : JS hp i ty e b (.row j v n) .Aq K = LN (AA hp j) hp j v n ty e b [] K := by
 unfold JS Nb LN EX; simp only [Option.map_some, List.map_nil]; cases AA hp j <;> rfl
structure HsS where
 j : Nat
 a : List Px
 u : Nat
theorem Zo (Q : List AU) (D : List AY) (hQ : AB.bulk Q ≤ 1048576) (hD : AB.bulk D ≤ 1048576) (hq : Dg Q = true) (hd : Ct D = true) :
  ∀ (f i k : Nat), i < Q.length → Q.length - i ≤ f → k < D.length → AG Tryz.prog 35 [.agg [.sl (Q.map av)], .int .i64 i, .agg [.sl (D.map av)], .int .i64 k] (Ka (Ba Q i) (B4 D k)) := by
 obtain ⟨pl, pt, pn⟩ := FC hq
 obtain ⟨dl, dt⟩ := OM hd
 have hpk : ∀ i, i < Q.length → ∀ k ∈ BK Q i, (i : Int) < k ∧ k < Q.length := fun i hi k hk => D5 pt hi hk
 have hdk : ∀ i, i < D.length → ∀ k ∈ A5 D i, (i : Int) < k ∧ k < D.length := fun i hi k hk => D5 dt hi hk
 intro f
 induction f with
 | zero => intro i k hi hf; omega
 | succ f ih =>
  intro i k hi hf hk
  refine Cq.F rfl (by simp; exact ⟨Aj.agg (by simp; exact Aw Q), Ea _, Aj.agg (by simp; exact Aw D), Ea _⟩) (QA _ _) ?_
  obtain ⟨m, hm⟩ := Si dt hk
  have CP := VP D hD k m hm hdk
  have e1 := getD_map av Q i .top hi
  have e2 := getD_map av D k .top hk
  have hn : Cy Q Q[i] = true := by
   have := pn i hi
   unfold FG at this
   rw [Be hi] at this
   simp only [Bool.and_eq_true] at this
   exact this.1
  have hv : Bb D D[k] = true := by
   have h1 := hd
   unfold Ct at h1
   simp only [Bool.and_eq_true] at h1
   exact List.all_eq_true.1 h1.2 _ (List.getElem_mem hk)
  have tq := S8 pt hi
  have td := Abi dt hk
  rw [show phd Q i = ⟨Q[i].kind, Q[i].n, Q[i].s⟩ by rw [phd, Be hi], show BK Q i = Q[i].kids by rw [BK, Be hi]] at tq
  rw [show dhd D k = ⟨D[k].kind, D[k].n, D[k].s⟩ by rw [dhd, Be hk], show A5 D k = D[k].kids by rw [A5, Be hk]] at td
  have hks := hpk i hi
  have hds := hdk k hk
  rw [BK, Be hi] at hks
  rw [A5, Be hk] at hds
  have sn := (Ed hQ i hi).1
  have sv := (DK hD k hk).1
  have hsame := Aa8 hn hv
  rw [Ip] at CP
  have hT : ∀ d, DX (Ba Q i) d = DX (Ba Q i) d := fun _ => rfl
  generalize Q[i] = n at *
  generalize D[k] = v at *
  by_cases h1 : n.kind = 1
  ·have hr : Ka (Ba Q i) (B4 D k) = .tup [.Aq, .bool true] := by rw [tq]; simp [Ka, DX, h1, Px.hd]
   rw [hr]
   simp +contextual -dsimp only [↓SD, SU, simprocAttr, -Nat.reduceMul, Cq, Aa, hi, hk, e1, e2, A8, Bm, h1]
  by_cases h2 : n.kind = 2
  ·have hr : Ka (Ba Q i) (B4 D k) = .tup [.sl [.agg [.sl ((BI (B4 D k)).map av)]], .bool true] := by rw [tq]; simp [Ka, DX, h1, h2, Px.hd, Ip]
   rw [hr]
   clear tq td
   simp +contextual -dsimp only [↓SD, SU, simprocAttr, -Nat.reduceMul, Cq, Aa, hi, hk, e1, e2, A8, Bm, h1, h2]
   intro u1 u2
   refine Ae _ CP ?_
   simp +contextual -dsimp only [↓SD, SU, simprocAttr, -Nat.reduceMul, Ab]
  have hX : DX (Ba Q i) (B4 D k) = if n.kind = v.kind ∧ n.n = v.n ∧ n.s = v.s ∧ n.kids.length = v.kids.length then B1 (n.kids.map fun k => Ba Q k.toNat) (v.kids.map fun k => B4 D k.toNat) else none := by
   rw [tq, td, DX, if_neg h1, if_neg h2]
   simp only [Px.hd, Px.kids, List.length_map]
  have hV : Ka (Ba Q i) (B4 D k) = match DX (Ba Q i) (B4 D k) with
    | none => .tup [.Aq, .bool false]
    | some l => .tup [.sl ((l.map fun x => (⟨BI x⟩ : Data)).map av), .bool true] := by
   unfold Ka
   rw [show (Ba Q i).hd.kind = n.kind by rw [tq]; rfl]
   simp only [if_neg h1]
  have hsz : pxN (Ba Q i) + i ≤ Q.length := by
   obtain ⟨m2, hm2⟩ := Si pt hi
   have h3 := J4 (H := phd Q) (Q.length + 1) i m2 hm2
   have h4 := Fx _ _ _ _ _ hm2
   have h5 : Ba Q i = BD (phd Q) (BK Q) (Q.length + 1) i := HQ hpk _ _ _ hi (by omega) (by omega)
   rw [h5]; omega
  rw [tq, pxN] at hsz
  rw [hV, hX]
  clear tq td hV hX hT CP
  have hvk : n.kind = v.kind → v.kind = n.kind := fun h => h.symm
  by_cases c0 : n.kind = v.kind
  case neg =>
   rw [if_neg (fun h => c0 h.1)]
   simp +contextual -dsimp only [↓SD, SU, simprocAttr, -Nat.reduceMul, Cq, Aa, hi, hk, e1, e2, A8, Bm, h1, h2, c0]
  replace hvk := hvk c0
  have hs2 := hsame h1 h2 c0
  by_cases c3 : n.kind = 3 ∧ ¬ n.n = v.n
  ·obtain ⟨A, B⟩ := c3
   rw [if_neg (fun h => B h.2.1)]
   simp +contextual -dsimp only [↓SD, SU, simprocAttr, -Nat.reduceMul, Cq, Aa, hi, hk, e1, e2, A8, Bm, hvk, A, B]
  by_cases c4 : n.kind = 4 ∧ ¬ n.s = v.s
  ·obtain ⟨A, B⟩ := c4
   rw [if_neg (fun h => B h.2.2.1)]
   simp +contextual -dsimp only [↓SD, SU, simprocAttr, -Nat.reduceMul, Cq, Aa, hi, hk, e1, e2, A8, Bm, hvk, A, B]
  by_cases c5 : n.kind = 4 ∧ ¬ n.kids.length = v.kids.length
  ·obtain ⟨A, B⟩ := c5
   have B2 : n.s = v.s := Classical.byContradiction fun h => c4 ⟨A, h⟩
   rw [if_neg (fun h => B h.2.2.2)]
   simp +contextual -dsimp only [↓SD, SU, simprocAttr, -Nat.reduceMul, Cq, Aa, hi, hk, e1, e2, A8, Bm, hvk, A, B, B2]
  have hall : n.n = v.n ∧ n.s = v.s ∧ n.kids.length = v.kids.length := hs2.2 ⟨fun h => Classical.byContradiction fun g => c3 ⟨h, g⟩, fun h => ⟨Classical.byContradiction fun g => c4 ⟨h, g⟩, Classical.byContradiction fun g => c5 ⟨h, g⟩⟩⟩
  rw [if_pos ⟨c0, hall⟩]
  obtain ⟨g1, g2, g3⟩ := hall
  have hcase : (n.kind = 3 ∧ n.n = v.n ∧ True) ∨ (n.kind = 4 ∧ n.s = v.s ∧ n.kids.length = v.kids.length) ∨ (¬ n.kind = 3 ∧ ¬ n.kind = 4 ∧ True) := by
   by_cases a3 : n.kind = 3
   ·exact .inl ⟨a3, g1, trivial⟩
   by_cases a4 : n.kind = 4
   ·exact .inr (.inl ⟨a4, g2, g3⟩)
   ·exact .inr (.inr ⟨a3, a4, trivial⟩)
  clear hs2 hsame c3 c4 c5 hn hv
  rcases hcase with ⟨A, B, C⟩ | ⟨A, B, C⟩ | ⟨A, B, C⟩
  all_goals
   simp +contextual -dsimp only [↓SD, SU, simprocAttr, -Nat.reduceMul, Cq, Aa, hi, hk, e1, e2, A8, Bm, hvk, h1, h2, A, B, C]
   intro u10 u11 u74
   refine AF (X := HsS) (fun q => ⟨[(4, .obj [.sl (Q.map av)]), (6, .obj [.sl (D.map av)]), (10, .ptr 10 u10 0 0), (11, .ptr 11 u11 0 0), (12, .row 74 q.u q.a.length), (77, .int .i64 n.kids.length), (78, .int .i64 q.j)], [(10, ⟨u10, false, 36, 4, [.agg [.int .i64 n.kind, .int .i64 n.n, .str n.s, .sl (n.kids.map av)]]⟩), (11, ⟨u11, false, 116, 4, [.agg [.int .i64 n.kind, .int .i64 v.n, .str v.s, .sl (v.kids.map av)]]⟩), (74, ⟨q.u, false, 28, 1, (q.a.map fun x => (⟨BI x⟩ : Data)).map av⟩)]⟩) (fun q => q.j ≤ n.kids.length ∧ B1 ((n.kids.map fun k => Ba Q k.toNat).take q.j) ((v.kids.map fun k => B4 D k.toNat).take q.j) = some q.a) (fun q => n.kids.length - q.j) ⟨0, [], u74⟩ ⟨Nat.zero_le _, by rw [List.take_zero, B1]⟩ (by simp +contextual -dsimp only [↓SD, SU, simprocAttr, -Nat.reduceMul, A, B, C]) (by simp +contextual -dsimp only [↓SD, SU, simprocAttr, -Nat.reduceMul, A, B, C]) ?_
   rintro ⟨j, a, u⟩ ⟨hj, ha⟩
   dsimp only at hj ha ⊢
   by_cases hlt : j < n.kids.length
   ·have hltv : j < v.kids.length := by omega
    have q1 := getD_map av n.kids j .top hlt
    have q2 := getD_map av v.kids j .top hltv
    have b1 := hks _ (List.getElem_mem hlt)
    have b2 := hds _ (List.getElem_mem hltv)
    have hls : (n.kids.map fun k => Ba Q k.toNat).length = (v.kids.map fun k => B4 D k.toNat).length := by simp [g3]
    have hj1 : j < (n.kids.map fun k => Ba Q k.toNat).length := by simpa using hlt
    have hst := Ol hls hj1
    rw [ha] at hst
    have hno := fun (h : B1 ((n.kids.map fun k => Ba Q k.toNat).take (j + 1)) ((v.kids.map fun k => B4 D k.toNat).take (j + 1)) = none) => Om hls hj1 h
    have hal := JL ha
    have hpt := Ep _ j hj1
    simp only [List.getElem_map] at hst hpt
    obtain ⟨m1, hm1⟩ : ∃ m : Nat, n.kids[j] = m := ⟨n.kids[j].toNat, by omega⟩
    obtain ⟨m2, hm2⟩ : ∃ m : Nat, v.kids[j] = m := ⟨v.kids[j].toNat, by omega⟩
    rw [hm1] at q1 b1 hst hpt
    rw [hm2] at q2 b2 hst
    simp only [Int.toNat_natCast] at hst hpt
    have CR := ih m1 m2 (by omega) (by omega) (by omega)
    have hbl := On (Ba Q m1) (B4 D m2)
    rw [Af] at q1 q2
    simp +contextual -dsimp only [↓SD, SU, simprocAttr, -Nat.reduceMul, hlt, q1, q2, hltv, Aa]
    cases hh : DX (Ba Q m1) (B4 D m2) with
    | none =>
     rw [hh] at hst
     rw [QB hh] at CR
     rw [hno hst]
     refine Ae _ CR ?_
     simp +contextual -dsimp only [↓SD, SU, simprocAttr, -Nat.reduceMul]
    | some b =>
     have hb2 := hbl b hh
     rw [hh] at hst
     have haa : List.take a.length ((a.map fun x => (⟨BI x⟩ : Data)).map (av : Data → AV)) = (a.map fun x => (⟨BI x⟩ : Data)).map av := List.take_of_length_le (by simp)
     rcases Qz hh with ⟨hb0, hV⟩ | hV
     ·rw [hV] at CR
      subst hb0
      refine Ae _ CR ?_
      simp only [List.append_nil] at hst
      simp +contextual -dsimp only [↓SD, SU, simprocAttr, -Nat.reduceMul, haa, Aa, LI, List.append_nil, Nat.add_zero]
      exact ⟨⟨by omega, by unfold maxLen; omega⟩, fun w => ⟨by omega, Ah.le ⟨⟨j + 1, a, w⟩, ⟨⟨hlt, hst⟩, (by first | omega | (simp only; omega))⟩, rfl⟩ (by simp +contextual -dsimp only [↓SD, SU, simprocAttr, -Nat.reduceMul, Int.natCast_add]) (by simp +contextual -dsimp only [↓SD, SU, simprocAttr, -Nat.reduceMul])⟩⟩
     ·rw [hV] at CR
      refine Ae _ CR ?_
      simp only at hst
      simp +contextual -dsimp only [↓SD, SU, simprocAttr, -Nat.reduceMul, haa, Aa, Ab]
      exact ⟨⟨fun y hy => (by obtain ⟨x, _, rfl⟩ := List.mem_map.1 hy; exact AVal.len x), by omega, by unfold maxLen; omega⟩, fun w => ⟨by omega, Ah.le ⟨⟨j + 1, a ++ b, w⟩, ⟨⟨hlt, hst⟩, (by first | omega | (simp only; omega))⟩, rfl⟩ (by simp +contextual -dsimp only [↓SD, SU, simprocAttr, -Nat.reduceMul, Int.natCast_add, List.length_append]) (by simp +contextual -dsimp only [↓SD, SU, simprocAttr, -Nat.reduceMul, List.map_append])⟩⟩
   ·obtain rfl : j = n.kids.length := by omega
    have ha2 : B1 (n.kids.map fun k => Ba Q k.toNat) (v.kids.map fun k => B4 D k.toNat) = some a := by
     have h1 : (n.kids.map fun k => Ba Q k.toNat).take n.kids.length = n.kids.map fun k => Ba Q k.toNat := List.take_of_length_le (by simp)
     have h2 : (v.kids.map fun k => B4 D k.toNat).take n.kids.length = v.kids.map fun k => B4 D k.toNat := List.take_of_length_le (by simp [g3])
     rw [h1, h2] at ha
     exact ha
    have haa : List.take a.length ((a.map fun x => (⟨BI x⟩ : Data)).map (av : Data → AV)) = (a.map fun x => (⟨BI x⟩ : Data)).map av := List.take_of_length_le (by simp)
    rw [ha2]
    simp +contextual -dsimp only [↓SD, SU, simprocAttr, -Nat.reduceMul, Nat.lt_irrefl, haa, Ab, Aa]

def TN (q : List AU) (d : List AY) : AV := if Dg q = true ∧ Ct d = true then Ka (Ba q 0) (B4 d 0) else .tup [.Aq, .bool false]
theorem Yc (q : List AU) (d : List AY) : ∃ x, TN q d = .tup [x, .bool (JM q d)] := by
 unfold TN JM V9
 split
 ·cases h : DX (Ba q 0) (B4 d 0) with
  | none => exact ⟨_, QB h⟩
  | some l =>
   rcases Qz h with ⟨_, hV⟩ | hV
   ·exact ⟨_, hV⟩
   ·exact ⟨_, hV⟩
 ·exact ⟨_, rfl⟩
theorem Qy (q : List AU) (d : List AY) : Aj (TN q d) := by
 unfold TN
 split
 ·exact QA _ _
 ·exact Aj.tup (by simp; exact ⟨Aj.Aq, Aj.bool _⟩)
theorem Vy (q : List AU) (d : List AY) (hq : AB.bulk q ≤ 1048576) (hd : AB.bulk d ≤ 1048576) (hr : ∀ n ∈ d, -9223372036854775808 ≤ n.n ∧ n.n ≤ 9223372036854775807) : AG Tryz.prog 8 [.agg [.sl (q.map av)], .agg [.sl (d.map av)]] (TN q d) := by
 refine Ha.F rfl (by simp; exact ⟨Aj.agg (by simp; exact Aw q), Aj.agg (by simp; exact Aw d)⟩) (Qy _ _) ?_
 have CP := K0 q hq
 have CD := Pj d hd hr
 by_cases hp : Dg q = true
 case neg =>
  have hp' : Dg q = false := by simpa using hp
  rw [hp'] at CP
  rw [show TN q d = .tup [.Aq, .bool false] from if_neg (fun h => hp h.1)]
  simp +contextual -dsimp only [↓SD, SU, simprocAttr, -Nat.reduceMul, Ha]
  refine Ae _ CP ?_
  simp +contextual -dsimp only [↓SD, SU, simprocAttr, -Nat.reduceMul]
 rw [hp] at CP
 by_cases hv : Ct d = true
 case neg =>
  have hv' : Ct d = false := by simpa using hv
  rw [hv'] at CD
  rw [show TN q d = .tup [.Aq, .bool false] from if_neg (fun h => hv h.2)]
  simp +contextual -dsimp only [↓SD, SU, simprocAttr, -Nat.reduceMul, Ha]
  refine Ae _ CP ?_
  simp +contextual -dsimp only [↓SD, SU, simprocAttr, -Nat.reduceMul]
  refine Ae _ CD ?_
  simp +contextual -dsimp only [↓SD, SU, simprocAttr, -Nat.reduceMul]
 rw [hv] at CD
 have CH := Zo q d hq hd hp hv q.length 0 0 (by have := (FC hp).1; omega) (by omega) (by have := (OM hv).1; omega)
 have hw : Ka (Ba q 0) (B4 d 0) = TN q d := (if_pos ⟨hp, hv⟩).symm
 obtain ⟨x, hx⟩ := Yc q d
 have hpu := Qy q d
 rw [hw] at CH
 rw [hx] at CH hpu ⊢
 simp +contextual -dsimp only [↓SD, SU, simprocAttr, -Nat.reduceMul, Ha]
 refine Ae _ CP ?_
 simp +contextual -dsimp only [↓SD, SU, simprocAttr, -Nat.reduceMul]
 refine Ae _ CD ?_
 simp +contextual -dsimp only [↓SD, SU, simprocAttr, -Nat.reduceMul]
 refine Ae _ CH ?_
 simp +contextual -dsimp only [↓SD, SU, simprocAttr, -Nat.reduceMul]
theorem M5 (l : List Pat) (d : List AY) (hl : AB.bulk l ≤ 1048576) (hd : AB.bulk d ≤ 1048576) (hr : ∀ n ∈ d, -9223372036854775808 ≤ n.n ∧ n.n ≤ 9223372036854775807) : AG Tryz.prog 14 [.sl (l.map av), .agg [.sl (d.map av)]] (.int .i64 (indexOf l fun q => JM q.nodes d)) := by
 have hn := Bh l
 refine HH.F rfl (by simp; exact ⟨Aw l, Aj.agg (by simp; exact Aw d)⟩) (Aj.int _ _) ?_
 simp +contextual -dsimp only [↓SD, SU, simprocAttr, -Nat.reduceMul, HH]
 refine AF (X := Nat) (fun q => ⟨[(3, .obj [.sl (d.map av)]), (9, .sl (l.map av)), (10, .int .i64 l.length), (11, .int .i64 q)], []⟩) (fun q => q ≤ l.length ∧ ((l.take q).all fun q => !JM q.nodes d) = true) (fun q => l.length - q) 0 ⟨Nat.zero_le _, rfl⟩ (by simp +contextual -dsimp only [↓SD, SU, simprocAttr, -Nat.reduceMul, Aa]) (by simp +contextual -dsimp only [↓SD, SU, simprocAttr, -Nat.reduceMul]) ?_
 rintro k ⟨hj, hpk⟩
 by_cases hlt : k < l.length
 ·have e1 := getD_map av l k .top hlt
  have CH := Vy l[k].nodes d (Ta hl (List.getElem_mem hlt)) hd hr
  obtain ⟨x, hx⟩ := Yc l[k].nodes d
  rw [hx] at CH
  have hat : JM l[k].nodes d = true → indexOf l (fun q => JM q.nodes d) = k := fun h => GK hlt hpk h
  have htk := List.take_succ_eq_append_getElem hlt
  generalize l[k] = a at *
  cases hb : JM a.nodes d with
  | true =>
   rw [hb] at CH
   rw [hat hb]
   simp +contextual -dsimp only [↓SD, SU, simprocAttr, -Nat.reduceMul, hlt, e1, Aa, GO]
   intro u
   refine Ae _ CH ?_
   simp +contextual -dsimp only [↓SD, SU, simprocAttr, -Nat.reduceMul]
  | false =>
   rw [hb] at CH
   simp +contextual -dsimp only [↓SD, SU, simprocAttr, -Nat.reduceMul, hlt, e1, Aa, GO]
   intro u
   refine Ae _ CH ?_
   simp +contextual -dsimp only [↓SD, SU, simprocAttr, -Nat.reduceMul]
   refine ⟨by omega, Ah.le ⟨k + 1, ⟨⟨hlt, by rw [htk, List.all_append, hpk]; simp [hb]⟩, (by first | omega | (simp only; omega))⟩, rfl⟩ (by simp +contextual -dsimp only [↓SD, SU, simprocAttr, -Nat.reduceMul, Int.natCast_add]) (by simp +contextual -dsimp only [↓SD, SU, simprocAttr, -Nat.reduceMul])⟩
 ·obtain rfl : k = l.length := by omega
  rw [List.take_length] at hpk
  simp +contextual -dsimp only [↓SD, SU, simprocAttr, -Nat.reduceMul, Nat.lt_irrefl, Aa, E8 hpk]
end Go.Proofs.YteeiaaogmjbcjaaGreat
