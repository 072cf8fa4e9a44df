/-
 Hit OF THE PROGRAM, by its abstract text. Conditions: none.
-/
import Derived.Test.YteeiaaogmjbcjaaGreatKJ36
import Derived.Test.YteeiaaogmjbcjaaGreatKJ09
import Derived.Test.YteeiaaogmjbcjaaGreatProg
import Derived.Test.YteeiaaogmjbcjaaGreatKAvDraw
import Derived.Test.YteeiaaogmjbcjaaGreatKJ07
import Derived.Test.YteeiaaogmjbcjaaGreatKJ20
set_option linter.unusedVariables false
set_option linter.unusedSimpArgs false
set_option maxRecDepth 100000
namespace Go.Proofs.YteeiaaogmjbcjaaGreat
open Go.RowKit Go.Proofs.YteeiaaogmjbcjaaGreat.Av Go.Proofs.YteeiaaogmjbcjaaGreat.Ml
open Go.Proofs.YteeiaaogmjbcjaaGreat.Av.AVal (av)

def V9 (q : List AU) (d : List AY) : Option (List Data) := if Dg q = true ∧ Ct d = true then (DX (Ba q 0) (B4 d 0)).map fun l => l.map fun x => ⟨BI x⟩ else none
def AbR (o : Option (List Data)) (r : AV) (hp' : Hp) : Prop := match o with
 | none => r = .tup [.Aq, .bool false] ∧ hp' = []
 | some l => ∃ v, r = .tup [.row 31 v l.length, .bool true] ∧ hp' = [(31, ⟨v, false, 28, 1, l.map av⟩)]
theorem OM {l : List AY} (h : Ct l = true) : (1 ≤ l.length ∧ l.length ≤ 600) ∧ Du (A5 l) l.length = true := by
 unfold Ct at h
 simp only [Bool.and_eq_true, decide_eq_true_eq] at h
 exact ⟨by omega, h.1.2⟩
theorem V6 (q : List AU) (d : List AY) (hq : AB.bulk q ≤ 1048576) (hd : AB.bulk d ≤ 1048576) : AO Tryz.prog 7 [.agg [.sl (q.map av)], .agg [.sl (d.map av)]] [] (AbR (V9 q d)) := by
 refine Hc.H rfl ?_
 have CP := Ls q hq
 have CD := Ks d hd
 have no : ¬ (Dg q = true ∧ Ct d = true) → V9 q d = none := fun h => if_neg h
 by_cases hp : Dg q = true
 case neg =>
  rw [no (fun h => hp h.1)]
  have hp' : Dg q = false := by simpa using hp
  rw [hp'] at CP
  simp +contextual -dsimp only [↓SD, SU, simprocAttr, -Nat.reduceMul, Hc]
  refine Ae _ CP ?_
  simp +contextual -dsimp only [↓SD, SU, simprocAttr, -Nat.reduceMul]
  refine Ah.post [] ?_
  simp +contextual -dsimp only [↓SD, SU, simprocAttr, -Nat.reduceMul]
  exact ⟨rfl, rfl⟩
 rw [hp] at CP
 by_cases hv : Ct d = true
 case neg =>
  rw [no (fun h => hv h.2)]
  have hv' : Ct d = false := by simpa using hv
  rw [hv'] at CD
  simp +contextual -dsimp only [↓SD, SU, simprocAttr, -Nat.reduceMul, Hc]
  refine Ae _ CP ?_
  simp +contextual -dsimp only [↓SD, SU, simprocAttr, -Nat.reduceMul]
  refine Ae _ CD ?_
  simp +contextual -dsimp only [↓SD, SU, simprocAttr, -Nat.reduceMul]
  refine Ah.post [] ?_
  simp +contextual -dsimp only [↓SD, SU, simprocAttr, -Nat.reduceMul]
  exact ⟨rfl, rfl⟩
 rw [hv] at CD
 have ho : V9 q d = (DX (Ba q 0) (B4 d 0)).map fun l => l.map fun x => ⟨BI x⟩ := if_pos ⟨hp, hv⟩
 obtain ⟨pl, pt, _⟩ := FC hp
 obtain ⟨dl, dt⟩ := OM hv
 have hpk : ∀ i, i < q.length → ∀ k ∈ BK q i, (i : Int) < k ∧ k < q.length := fun i hi k hk => D5 pt hi hk
 have hdk : ∀ i, i < d.length → ∀ k ∈ A5 d i, (i : Int) < k ∧ k < d.length := fun i hi k hk => D5 dt hi hk
 have G1 := MN q hpk hq q.length 0 (by omega) (by omega)
 have G2 := RR d hdk hd d.length 0 (by omega) (by omega)
 have s1 : pxN (Ba q 0) = q.length := LU pt hpk (by omega)
 have s2 : pxN (B4 d 0) = d.length := LU dt hdk (by omega)
 rw [ho]
 unfold Ba at s1 ⊢
 unfold B4 at s2 ⊢
 generalize BD (phd q) (BK q) q.length 0 = t at *
 generalize BD (dhd d) (A5 d) d.length 0 = e at *
 have CH := Adp t e [] .Aq [] (.inl ⟨rfl, rfl, rfl⟩) (by simp only [List.length_nil]; omega)
 have hpart := ZB t e
 have hlen := On t e
 unfold YV at CH
 simp only [List.nil_append] at CH
 simp +contextual -dsimp only [↓SD, SU, simprocAttr, -Nat.reduceMul, Hc]
 refine Ae _ CP ?_
 simp +contextual -dsimp only [↓SD, SU, simprocAttr, -Nat.reduceMul]
 refine Ae _ CD ?_
 simp +contextual -dsimp only [↓SD, SU, simprocAttr, -Nat.reduceMul]
 refine Ae _ G1 ?_
 simp +contextual -dsimp only [↓SD, SU, simprocAttr, -Nat.reduceMul]
 refine Ae _ G2 ?_
 simp +contextual -dsimp only [↓SD, SU, simprocAttr, -Nat.reduceMul, Cg]
 refine Ac [] CH (by simp +contextual -dsimp only [↓SD, SU, simprocAttr, -Nat.reduceMul, Cg]) ?_
 rintro r hp' hr
 cases hh : DX t e with
 | none =>
  rw [hh] at hr
  obtain ⟨rfl, rfl⟩ := hr
  simp +contextual -dsimp only [↓SD, SU, simprocAttr, -Nat.reduceMul]
  refine Ah.post [] ?_
  simp +contextual -dsimp only [↓SD, SU, simprocAttr, -Nat.reduceMul]
  exact ⟨rfl, rfl⟩
 | some l =>
  rw [hh] at hr
  obtain ⟨x, hx, rfl⟩ := hr
  have hll := hlen l hh
  have hpl := hpart l hh
  rcases hx with ⟨rfl, rfl, rfl⟩ | ⟨v, rfl, rfl⟩
  ·simp +contextual -dsimp only [↓SD, SU, simprocAttr, -Nat.reduceMul]
   intro u
   refine AF (X := Unit) (fun _ => ⟨[(8, .row 31 u 0), (32, .Aq), (33, .int .i64 0), (34, .int .i64 0)], [(31, ⟨u, false, 28, 1, []⟩)]⟩) (fun _ => True) (fun _ => 0) () trivial (by simp +contextual -dsimp only [↓SD, SU, simprocAttr, -Nat.reduceMul]) (by simp +contextual -dsimp only [↓SD, SU, simprocAttr, -Nat.reduceMul]) ?_
   rintro _ _
   simp +contextual -dsimp only [↓SD, SU, simprocAttr, -Nat.reduceMul]
   refine Ah.post [(31, ⟨u, false, 28, 1, []⟩)] ?_
   simp +contextual -dsimp only [↓SD, SU, simprocAttr, -Nat.reduceMul, false_and]
   exact ⟨u, rfl, rfl⟩
  ·simp +contextual -dsimp only [↓SD, SU, simprocAttr, -Nat.reduceMul]
   intro u
   refine AF (X := Nat × Nat) (fun s => ⟨[(8, .row 31 s.2 s.1), (32, .row 24 v l.length), (33, .int .i64 l.length), (34, .int .i64 s.1)], [(31, ⟨s.2, false, 28, 1, ((l.take s.1).map fun x => (⟨BI x⟩ : Data)).map av⟩), (24, ⟨v, false, 73, 1, l.map av⟩)]⟩) (fun s => s.1 ≤ l.length) (fun s => l.length - s.1) (0, u) (Nat.zero_le _) (by simp +contextual -dsimp only [↓SD, SU, simprocAttr, -Nat.reduceMul]) (by simp +contextual -dsimp only [↓SD, SU, simprocAttr, -Nat.reduceMul, List.take_zero, List.map_nil]) ?_
   rintro ⟨j, u⟩ hj
   dsimp only at hj ⊢
   by_cases hlt : j < l.length
   ·have e1 := getD_map av l j .top hlt
    have hb := hpl l[j] (List.getElem_mem hlt)
    have CO := ZF l[j] (by omega)
    have ht : ((l.take (j + 1)).map fun x => (⟨BI x⟩ : Data)).map (av : Data → AV) = ((l.take j).map fun x => (⟨BI x⟩ : Data)).map av ++ [av (⟨BI l[j]⟩ : Data)] := by rw [List.take_succ_eq_append_getElem hlt, List.map_append, List.map_append]; rfl
    have htl : (((l.take j).map fun x => (⟨BI x⟩ : Data)).map (av : Data → AV)).length = j := by simp; omega
    have htt : List.take j (((l.take j).map fun x => (⟨BI x⟩ : Data)).map (av : Data → AV)) = ((l.take j).map fun x => (⟨BI x⟩ : Data)).map av := List.take_of_length_le (by rw [htl]; exact Nat.le_refl _)
    rw [Ip] at CO ht
    generalize ((l.take j).map fun x => (⟨BI x⟩ : Data)).map (av : Data → AV) = G at *
    simp +contextual -dsimp only [↓SD, SU, simprocAttr, -Nat.reduceMul, hlt, Aa, e1, C7, E0, D6, Cg, E1, GZ]
    refine Ae _ CO ?_
    simp +contextual -dsimp only [↓SD, SU, simprocAttr, -Nat.reduceMul, htl, htt, Ab]
    exact ⟨⟨by omega, by unfold maxLen; omega⟩, fun w => ⟨by omega, Ah.le ⟨(j + 1, w), ⟨hlt, (by first | omega | (simp only; omega))⟩, rfl⟩ (by simp +contextual -dsimp only [↓SD, SU, simprocAttr, -Nat.reduceMul, Int.natCast_add]) (by simp +contextual -dsimp only [↓SD, SU, simprocAttr, -Nat.reduceMul, ht])⟩⟩
   ·obtain rfl : j = l.length := by omega
    rw [List.take_length]
    simp +contextual -dsimp only [↓SD, SU, simprocAttr, -Nat.reduceMul, Nat.lt_irrefl]
    refine Ah.post [(31, ⟨u, false, 28, 1, (l.map fun x => (⟨BI x⟩ : Data)).map av⟩)] ?_
    simp +contextual -dsimp only [↓SD, SU, simprocAttr, -Nat.reduceMul, false_and]
    exact ⟨u, by simp, rfl⟩
def JM (q : List AU) (d : List AY) : Bool := (V9 q d).isSome
theorem RX (q : Pat) (d : List AY) (hq : AB.bulk q.nodes ≤ 1048576) (hd : AB.bulk d ≤ 1048576) : AG Tryz.prog 46 [av q, .obj [.sl (d.map av)]] (.bool (JM q.nodes d)) := by
 refine GJ.F rfl (by simp; exact ⟨AVal.clean q, Aj.obj (by simp; exact Aw d)⟩) (Aj.bool _) ?_
 have C := V6 q.nodes d hq hd
 unfold JM
 simp +contextual -dsimp only [↓SD, SU, simprocAttr, -Nat.reduceMul, GJ, GO]
 refine Ac [] C (by simp +contextual -dsimp only [↓SD, SU, simprocAttr, -Nat.reduceMul]) ?_
 rintro r hp' hr
 cases ho : V9 q.nodes d with
 | none =>
  rw [ho] at hr
  obtain ⟨rfl, rfl⟩ := hr
  simp +contextual -dsimp only [↓SD, SU, simprocAttr, -Nat.reduceMul]
  rfl
 | some l =>
  rw [ho] at hr
  obtain ⟨v, rfl, rfl⟩ := hr
  simp +contextual -dsimp only [↓SD, SU, simprocAttr, -Nat.reduceMul]
  rfl
end Go.Proofs.YteeiaaogmjbcjaaGreat
set_option linter.unusedVariables false
set_option maxRecDepth 100000
namespace Go.Proofs.YteeiaaogmjbcjaaGreat
open Go.Proofs.YteeiaaogmjbcjaaGreat.Av

theorem LA : Tryz.prog.follows .mixedOrders = true := by kernel_rfl

def Cw : Ir Tryz.prog 45 [] [] 2 := ⟨_, _, Tryz.func45, LA, by kernel_rfl, Ay [] Tryz.progTables (by conv => lhs; cbv) (by kernel_rfl)⟩
def Cj : Ir Tryz.prog 39 [] [] 2 := ⟨_, _, Tryz.func39, LA, by kernel_rfl, Ay [] Tryz.progTables (by conv => lhs; cbv) (by kernel_rfl)⟩
end Go.Proofs.YteeiaaogmjbcjaaGreat
set_option linter.unusedVariables false
set_option linter.unusedSimpArgs false
set_option maxRecDepth 100000
namespace Go.Proofs.YteeiaaogmjbcjaaGreat
open Go.RowKit Go.Proofs.YteeiaaogmjbcjaaGreat.Av Go.Proofs.YteeiaaogmjbcjaaGreat.Ml
open Go.Proofs.YteeiaaogmjbcjaaGreat.Av.AVal (av)

theorem HY (l : List Pat) (g : FuncId) (caps : List AV) (p : Pat → Bool) (hl : l.length ≤ 1099511627776) (hp : ∀ x ∈ caps, Aj x) (hc : ∀ hp, caps.map (AV.BB hp) = caps) (hg : ∀ x ∈ l, AG Tryz.prog g (av x :: caps) (.bool (p x))) :
  AG Tryz.prog 45 [.sl (l.map av), .fn g caps] (.int .i64 (indexOf l p)) := by
 refine Cw.F rfl (by simp; exact ⟨Aw l, Aj.fn hp⟩) (Aj.int _ _) ?_
 simp +contextual -dsimp only [↓SD, SU, simprocAttr, Cw, Aa]
 refine AF (X := Nat) (fun k => ⟨[(0, .sl (l.map av)), (1, .fn g caps), (7, .int .i64 l.length), (8, .int .i64 k)], []⟩) (fun k => k ≤ l.length ∧ (l.take k).all (fun x => !p x) = true) (fun k => l.length - k) 0 ⟨Nat.zero_le _, rfl⟩ (by simp +contextual -dsimp only [↓SD, SU, simprocAttr]) trivial ?_
 intro k ⟨hk, hpk⟩
 by_cases hlt : k < l.length
 ·have e := getD_map av l k .top hlt
  have C := hg l[k] (List.getElem_mem hlt)
  rw [GO] at C
  simp +contextual -dsimp only [↓SD, SU, simprocAttr, Aa, e, GO, hlt, hc]
  refine Ae _ C ?_
  simp +contextual -dsimp only [↓SD, SU, simprocAttr]
  refine ⟨fun h1 => by rw [GK hlt hpk h1], fun h1 => ⟨by omega, ?_⟩⟩
  exact Ah.le ⟨k + 1, ⟨⟨hlt, by rw [Gk _ hlt hpk, h1]; rfl⟩, (by first | omega | (simp only; omega))⟩, rfl⟩ (by simp +contextual -dsimp only [↓SD, SU, simprocAttr, Int.natCast_add]) trivial
 ·obtain rfl : k = l.length := by omega
  rw [List.take_length] at hpk
  simp +contextual -dsimp only [↓SD, SU, simprocAttr, Aa, Nat.lt_irrefl, E8 hpk]
theorem Kc (l : List Pat) (g : FuncId) (caps : List AV) (p : Pat → Bool) (hl : l.length ≤ 1099511627776) (hp : ∀ x ∈ caps, Aj x) (hc : ∀ hp, caps.map (AV.BB hp) = caps) (hg : ∀ x ∈ l, AG Tryz.prog g (av x :: caps) (.bool (p x))) :
  AG Tryz.prog 39 [.sl (l.map av), .fn g caps] (.bool (l.any p)) := by
 refine Cj.F rfl (by simp; exact ⟨Aw l, Aj.fn hp⟩) (Aj.bool _) ?_
 simp +contextual -dsimp only [↓SD, SU, simprocAttr, Cj, hc]
 refine Ae _ (HY l g caps p hl hp hc hg) ?_
 simp +contextual -dsimp only [↓SD, SU, simprocAttr, He]

end Go.Proofs.YteeiaaogmjbcjaaGreat
set_option linter.unusedVariables false
set_option linter.unusedSimpArgs false
set_option maxRecDepth 100000
namespace Go.Proofs.YteeiaaogmjbcjaaGreat
open Go.RowKit Go.Proofs.YteeiaaogmjbcjaaGreat.Av Go.Proofs.YteeiaaogmjbcjaaGreat.Ml
open Go.Proofs.YteeiaaogmjbcjaaGreat.Av.AVal (av)

theorem Ta {l : List Pat} (hl : AB.bulk l ≤ 1048576) {q : Pat} (hq : q ∈ l) : AB.bulk q.nodes ≤ 1048576 := by
 have h1 := GM hq
 have h2 : AB.bulk q = AB.bulk q.nodes + 1 := rfl
 omega
theorem M7 (l : List Pat) (d : List AY) (hl : AB.bulk l ≤ 1048576) (hd : AB.bulk d ≤ 1048576) : AG Tryz.prog 13 [.sl (l.map av), .agg [.sl (d.map av)]] (.int .i64 (indexOf l fun q => JM q.nodes d)) := by
 have hn := Bh l
 have C := HY l 46 [.obj [.sl (d.map av)]] (fun q => JM q.nodes d) (by omega) (by simp; exact Aj.obj (by simp; exact Aw d)) (fun hp => rfl) (fun q hq => RX q d (Ta hl hq) hd)
 refine HL.F rfl (by simp; exact ⟨Aw l, Aj.agg (by simp; exact Aw d)⟩) (Aj.int _ _) ?_
 simp +contextual -dsimp only [↓SD, SU, simprocAttr, -Nat.reduceMul, HL]
 refine Ae _ C ?_
 simp +contextual -dsimp only [↓SD, SU, simprocAttr, -Nat.reduceMul]
end Go.Proofs.YteeiaaogmjbcjaaGreat
set_option linter.unusedVariables false
set_option maxRecDepth 100000
namespace Go.Proofs.YteeiaaogmjbcjaaGreat
open Go.Proofs.YteeiaaogmjbcjaaGreat.Av

theorem F6 : Tryz.prog.follows .mixedOrders = true := by kernel_rfl

def Iz : Ir Tryz.prog 69 [] [12] 2 := ⟨_, _, Tryz.func69, F6, by kernel_rfl, Ay [] Tryz.progTables (by conv => lhs; cbv) (by kernel_rfl)⟩
def Cq : Ir Tryz.prog 35 [] [] 4 := ⟨_, _, Tryz.func35, F6, by kernel_rfl, Ay [] Tryz.progTables (by conv => lhs; cbv) (by kernel_rfl)⟩
def Ha : Ir Tryz.prog 8 [] [] 2 := ⟨_, _, Tryz.func8, F6, by kernel_rfl, Ay [] Tryz.progTables (by conv => lhs; cbv) (by kernel_rfl)⟩
def HH : Ir Tryz.prog 14 [] [] 2 := ⟨_, _, Tryz.func14, F6, by kernel_rfl, Ay [] Tryz.progTables (by conv => lhs; cbv) (by kernel_rfl)⟩
end Go.Proofs.YteeiaaogmjbcjaaGreat
set_option linter.unusedVariables false
namespace Go.Proofs.YteeiaaogmjbcjaaGreat
open Go.RowKit Go.Proofs.YteeiaaogmjbcjaaGreat.Av Go.Proofs.YteeiaaogmjbcjaaGreat.Ml
open Go.Proofs.YteeiaaogmjbcjaaGreat.Av.AVal (av)

def shN (s : Int) (n : AY) : AU := ⟨n.kind, n.n, n.s, n.kids.map (· + s)⟩
theorem Y6 (l : List AY) {a b c : Nat} (h1 : a ≤ b) (h2 : b ≤ c) : (l.drop a).take (c - a) = (l.drop a).take (b - a) ++ (l.drop b).take (c - b) := by
 have e : c - a = (b - a) + (c - b) := by omega
 rw [e, List.take_add, List.drop_drop]
 congr 3
 omega
theorem Qt {l : List AY} {n f : Nat} (ih : ∀ (a m b : Nat) (s : Int), B3 (A5 l) n f a = some m → (b : Int) - a = s → AL b (BD (dhd l) (A5 l) f a) = ((l.drop a).take (m - a)).map (shN s)) :
  ∀ (ks : List Int) (nx m b : Nat) (s : Int), nx ≤ n → Ce (B3 (A5 l) n f) ks nx = some m → (b : Int) - nx = s →
   AJ b (ks.map fun k => BD (dhd l) (A5 l) f k.toNat) = ((l.drop nx).take (m - nx)).map (shN s) ∧ AM b (ks.map fun k => BD (dhd l) (A5 l) f k.toNat) = ks.map (· + s)
 | [], nx, m, b, s, hn, h, hs => by
  rw [Ce] at h; cases h
  rw [List.map_nil, AJ, AM]; simp
 | k :: ks, nx, m, b, s, hn, h, hs => by
  rw [Ce] at h
  split at h
  ·rename_i hk
   cases he : B3 (A5 l) n f nx with
   | none => rw [he] at h; cases h
   | some m1 =>
    rw [he] at h
    simp only at h
    have h1 := Fx (A5 l) n f nx m1 he
    have h2 := Nk (Fx (A5 l) n f) h h1.2
    have hz := J4 (H := dhd l) f nx m1 he
    have hk2 : k.toNat = nx := by omega
    rw [List.map_cons, AJ, AM, hk2]
    generalize hT : BD (dhd l) (A5 l) f nx = T at *
    have e1 := ih nx m1 b s he hs
    rw [hT] at e1
    obtain ⟨e2, e3⟩ := Qt ih ks m1 m (b + pxN T) s h1.2 h (by omega)
    rw [e1, e2, e3, Y6 l (show nx ≤ m1 by omega) h2.1, List.map_append]
    refine ⟨rfl, ?_⟩
    rw [List.map_cons]
    congr 1
    omega
  ·cases h
theorem Ug {l : List AY} {n : Nat} (hn : n = l.length) : ∀ (f a m b : Nat) (s : Int), B3 (A5 l) n f a = some m → (b : Int) - a = s → AL b (BD (dhd l) (A5 l) f a) = ((l.drop a).take (m - a)).map (shN s)
 | 0, a, m, b, s, h, _ => by rw [B3] at h; cases h
 | f + 1, a, m, b, s, h, hs => by
  have hm := Fx (A5 l) n (f + 1) a m h
  rw [B3] at h
  split at h
  ·rename_i hl
   obtain ⟨e1, e2⟩ := Qt (fun a m b s => Ug hn f a m b s) (A5 l a) (a + 1) m (b + 1) s (by omega) h (by omega)
   have hal : a < l.length := by omega
   rw [BD, AL, e1, e2]
   have ed : l.drop a = l[a] :: l.drop (a + 1) := List.drop_eq_getElem_cons hal
   have hk : A5 l a = l[a].kids := by rw [A5, Be hal]
   have hh : dhd l a = ⟨l[a].kind, l[a].n, l[a].s⟩ := by rw [dhd, Be hal]
   obtain ⟨c, hc⟩ : ∃ c, m - a = c + 1 := ⟨m - a - 1, by omega⟩
   have hc2 : m - (a + 1) = c := by omega
   rw [ed, hc, hc2, List.take_succ_cons, List.map_cons, hk, hh]
   rfl
  ·cases h
end Go.Proofs.YteeiaaogmjbcjaaGreat
set_option linter.unusedVariables false
set_option linter.unusedSimpArgs false
set_option maxRecDepth 100000
namespace Go.Proofs.YteeiaaogmjbcjaaGreat
open Go.RowKit Go.Proofs.YteeiaaogmjbcjaaGreat.Av Go.Proofs.YteeiaaogmjbcjaaGreat.Ml
open Go.Proofs.YteeiaaogmjbcjaaGreat.Av.AVal (av)

def shD (s : Int) (n : AY) : AY := ⟨n.kind, n.n, n.s, n.kids.map (· + s)⟩
theorem ZD {l : List AY} (hk : ∀ i, i < l.length → ∀ k ∈ A5 l i, (i : Int) < k ∧ k < l.length) {a : Nat} (ha : a < l.length) : B4 l a = BD (dhd l) (A5 l) (l.length + 1) a := HQ hk _ _ _ ha (by omega) (by omega)
theorem Aax {l : List AY} {a m : Nat} (hk : ∀ i, i < l.length → ∀ k ∈ A5 l i, (i : Int) < k ∧ k < l.length) (h : B3 (A5 l) l.length (l.length + 1) a = some m) : BI (B4 l a) = ((l.drop a).take (m - a)).map (shD (-(a : Int))) := by
 have hm := Fx (A5 l) l.length (l.length + 1) a m h
 rw [ZD hk (by omega)]
 unfold BI
 rw [Ug rfl (l.length + 1) a m 0 (-(a : Int)) h (by omega), List.map_map]
 rfl
def VD (k u : Nat) : AV := if k = 0 then .Aq else .row 46 u k
def Pn (k u : Nat) (es : List AV) : Hp := if k = 0 then [] else [(46, ⟨u, false, 116, 4, es⟩)]
theorem Xb {s : Hp} {k u : Nat} {es : List AV} (h : AA s 46 = AA (Pn k u es) 46) : Bu s (Pn k u es) := by
 unfold Pn at *
 split
 ·trivial
 ·rename_i hk
  rw [if_neg hk] at h
  exact ⟨h, trivial⟩
theorem VP (l : List AY) (hx : AB.bulk l ≤ 1048576) (a m : Nat) (h : B3 (A5 l) l.length (l.length + 1) a = some m) (hk : ∀ i, i < l.length → ∀ k ∈ A5 l i, (i : Int) < k ∧ k < l.length) :
  AG Tryz.prog 69 [.agg [.sl (l.map av)], .int .i64 a] (av (⟨BI (B4 l a)⟩ : Data)) := by
 have hm := Fx (A5 l) l.length (l.length + 1) a m h
 have hbl := Bh l
 have CE := Qo l hx (l.length + 1) a (by omega) (by omega)
 rw [h] at CE
 rw [Aax hk h]
 refine Iz.F rfl (by simp; exact ⟨Aj.agg (by simp; exact Aw l), Ea _⟩) (AVal.clean _) ?_
 rw [Ip]
 simp +contextual -dsimp only [↓SD, SU, simprocAttr, -Nat.reduceMul, Iz, Aa]
 intro u4 u5
 have hendI : Me (some m) = (m : Int) := rfl
 rw [hendI] at CE
 refine AF (X := Nat × Nat) (fun q => ⟨[(1, .int .i64 a), (2, .obj [.sl (l.map av)]), (4, .ptr 4 u4 0 0), (5, .ptr 5 u5 0 0), (6, .int .i64 ((a : Int) + (q.1 : Int)))], (4, ⟨u4, false, 28, 1, [.agg [.Aq]]⟩) :: (5, ⟨u5, false, 28, 1, [.agg [VD q.1 q.2]]⟩) :: Pn q.1 q.2 ((((l.drop a).take q.1).map (shD (-(a : Int)))).map av)⟩) (fun q => a + q.1 ≤ m) (fun q => m - a - q.1) (0, 0) (by dsimp only; omega) (by simp +contextual -dsimp only [↓SD, SU, simprocAttr, -Nat.reduceMul, Int.ofNat_zero, Int.add_zero]) (by simp +contextual -dsimp only [↓SD, SU, simprocAttr, -Nat.reduceMul, VD, Pn]) ?_
 rintro ⟨j, u⟩ hj
 dsimp only at hj ⊢
 by_cases hlt : a + j < m
 ·have hal : a + j < l.length := by omega
  have e1 := getD_map av l (a + j) .top hal
  have hlt' : (a : Int) + (j : Int) < (m : Int) := by omega
  have hkn := (DK hx (a + j) hal).1
  have hK := hk (a + j) hal
  rw [A5, Be hal] at hK
  have hrow : ((l.drop a).take (j + 1)).map (shD (-(a : Int))) = ((l.drop a).take j).map (shD (-(a : Int))) ++ [shD (-(a : Int)) l[a + j]] := by
   have h1 : j < (l.drop a).length := by simp; omega
   rw [List.take_succ_eq_append_getElem h1, List.map_append]
   simp
  have hsh : shD (-(a : Int)) l[a + j] = ⟨l[a + j].kind, l[a + j].n, l[a + j].s, l[a + j].kids.map (· + -(a : Int))⟩ := rfl
  have hgl : (((l.drop a).take j).map (shD (-(a : Int)))).length = j := by simp; omega
  rw [hsh] at hrow
  generalize ((l.drop a).take j).map (shD (-(a : Int))) = G at *
  generalize l[a + j] = n at *
  simp +contextual -dsimp only [↓SD, SU, simprocAttr, -Nat.reduceMul, Int.natCast_add]
  refine Ae _ CE ?_
  have htn : ((a : Int) + (j : Int)).toNat = a + j := by omega
  have hge : (0 : Int) ≤ (a : Int) + (j : Int) := by omega
  have hlt3 : (a : Int) + (j : Int) < (l.length : Int) := by omega
  simp +contextual -dsimp only [↓SD, SU, simprocAttr, -Nat.reduceMul, hlt', hal, Aa, e1, Bm, htn, hge, hlt3]
  intro u7 u25
  refine AF (X := Nat × Nat) (fun q => ⟨[(1, .int .i64 a), (2, .obj [.sl (l.map av)]), (4, .ptr 4 u4 0 0), (5, .ptr 5 u5 0 0), (6, .int .i64 ((a : Int) + j)), (7, .ptr 7 u7 0 0), (8, .row 25 q.2 q.1), (27, .sl (n.kids.map av)), (28, .int .i64 n.kids.length), (29, .int .i64 q.1)], (4, ⟨u4, false, 28, 1, [.agg [.Aq]]⟩) :: (5, ⟨u5, false, 28, 1, [.agg [VD j u]]⟩) :: (7, ⟨u7, false, 116, 4, [.agg [.int .i64 n.kind, .int .i64 n.n, .str n.s, .sl (n.kids.map av)]]⟩) :: (25, ⟨q.2, false, 3, 1, ((n.kids.take q.1).map (· + -(a : Int))).map av⟩) :: Pn j u (G.map av)⟩) (fun q => q.1 ≤ n.kids.length) (fun q => n.kids.length - q.1) (0, u25) (Nat.zero_le _) (by simp +contextual -dsimp only [↓SD, SU, simprocAttr, -Nat.reduceMul]) (by simp +contextual -dsimp only [↓SD, SU, simprocAttr, -Nat.reduceMul, List.take_zero, List.map_nil, Xb]) ?_
  rintro ⟨i, u6⟩ hi
  dsimp only at hi ⊢
  by_cases hik : i < n.kids.length
  ·have e2 := getD_map av n.kids i .top hik
   have hkk := hK _ (List.getElem_mem hik)
   have ht : ((n.kids.take (i + 1)).map (· + -(a : Int))).map (av : Int → AV) = ((n.kids.take i).map (· + -(a : Int))).map av ++ [.int .i64 (n.kids[i] - (a : Int))] := by rw [List.take_succ_eq_append_getElem hik, List.map_append, List.map_append]; rfl
   have htl : (((n.kids.take i).map (· + -(a : Int))).map (av : Int → AV)).length = i := by simp; omega
   have htt : List.take i (((n.kids.take i).map (· + -(a : Int))).map (av : Int → AV)) = ((n.kids.take i).map (· + -(a : Int))).map av := List.take_of_length_le (by rw [htl]; exact Nat.le_refl _)
   generalize ((n.kids.take i).map (· + -(a : Int))).map (av : Int → AV) = K at *
   generalize n.kids[i] = k at *
   rw [Af] at e2
   simp +contextual -dsimp only [↓SD, SU, simprocAttr, -Nat.reduceMul, hik, e2, Aa, htl, htt]
   refine ⟨by omega, ⟨by omega, by unfold maxLen; omega⟩, fun w => ⟨by omega, ?_⟩⟩
   exact Ah.le ⟨(i + 1, w), ⟨hik, (by first | omega | (simp only; omega))⟩, rfl⟩ (by simp +contextual -dsimp only [↓SD, SU, simprocAttr, -Nat.reduceMul, Int.natCast_add]) (by simp +contextual -dsimp only [↓SD, SU, simprocAttr, -Nat.reduceMul, ht, Xb])
  ·obtain rfl : i = n.kids.length := by omega
   have hkn : ∀ hp, ((n.kids.map (· + -(a : Int))).map (av : Int → AV)).map (AV.pur hp) = (n.kids.map (· + -(a : Int))).map av := fun hp => Ab _ hp
   have hkl : ((n.kids.map (· + -(a : Int))).map (av : Int → AV)).length = n.kids.length := by simp
   have hkt : List.take n.kids.length ((n.kids.map (· + -(a : Int))).map (av : Int → AV)) = (n.kids.map (· + -(a : Int))).map av := List.take_of_length_le (by simp)
   have hrow2 : List.map (av : AY → AV) (((l.drop a).take (j + 1)).map (shD (-(a : Int)))) = G.map av ++ [.agg [.int .i64 n.kind, .int .i64 n.n, .str n.s, .sl ((n.kids.map (· + -(a : Int))).map av)]] := by rw [hrow, List.map_append, List.map_cons, Bm]; rfl
   have hgt : List.take j (G.map (av : AY → AV)) = G.map av := List.take_of_length_le (by simp; omega)
   rw [List.take_length]
   generalize (n.kids.map (· + -(a : Int))).map (av : Int → AV) = K at *
   have hk1 : ¬ j + 1 = 0 := by omega
   have rE1 : ∀ u, VD (j + 1) u = .row 46 u (j + 1) := fun u => if_neg hk1
   have rF1 : ∀ u es, Pn (j + 1) u es = [(46, ⟨u, false, 116, 4, es⟩)] := fun u es => if_neg hk1
   by_cases h0 : j = 0
   ·have c0 : VD j u = .Aq := if_pos h0
    have d0 : ∀ es, Pn j u es = [] := fun _ => if_pos h0
    have g0 : G = [] := List.eq_nil_of_length_eq_zero (by omega)
    rw [c0, d0]
    simp +contextual -dsimp only [↓SD, SU, simprocAttr, -Nat.reduceMul, Nat.lt_irrefl]
    refine BO (Ah.frz 25 (Ah.pur 8 (Ah.here ?_)))
    simp +contextual -dsimp only [↓SD, SU, simprocAttr, -Nat.reduceMul, hkn, hkl, hkt, Nat.le_refl]
    refine ⟨⟨by omega, by unfold maxLen; omega⟩, fun w => ⟨by omega, ?_⟩⟩
    subst h0
    rw [g0] at hrow2
    simp only [List.map_nil, List.nil_append, Nat.zero_add] at hrow2 rE1 rF1
    exact Ah.le ⟨(1, w), ⟨by omega, (by first | omega | (simp only; omega))⟩, rfl⟩ (by simp +contextual -dsimp only [↓SD, SU, simprocAttr, -Nat.reduceMul, Int.natCast_add, Int.ofNat_zero, Int.add_zero]) (by simp +contextual -dsimp only [↓SD, SU, simprocAttr, -Nat.reduceMul, rE1, rF1, hrow2])
   ·have rE : ∀ u, VD j u = .row 46 u j := fun u => if_neg h0
    have rF : ∀ u es, Pn j u es = [(46, ⟨u, false, 116, 4, es⟩)] := fun u es => if_neg h0
    rw [rE, rF]
    have hgl2 : (G.map (av : AY → AV)).length = j := by simp; omega
    generalize G.map (av : AY → AV) = G2 at *
    simp +contextual -dsimp only [↓SD, SU, simprocAttr, -Nat.reduceMul, Nat.lt_irrefl]
    refine BO (Ah.frz 25 (Ah.pur 8 (Ah.here ?_)))
    simp +contextual -dsimp only [↓SD, SU, simprocAttr, -Nat.reduceMul, hkn, hkl, hkt, Nat.le_refl, hgt]
    refine ⟨⟨by omega, by unfold maxLen; omega⟩, fun w => ⟨by omega, ?_⟩⟩
    exact Ah.le ⟨(j + 1, w), ⟨by omega, (by first | omega | (simp only; omega))⟩, rfl⟩ (by simp +contextual -dsimp only [↓SD, SU, simprocAttr, -Nat.reduceMul, Int.natCast_add, Int.add_assoc]) (by simp +contextual -dsimp only [↓SD, SU, simprocAttr, -Nat.reduceMul, rE1, rF1, hrow2])
 ·obtain rfl : a + j = m := by omega
  have h0 : ¬ j = 0 := by omega
  have rE : ∀ u, VD j u = .row 46 u j := fun u => if_neg h0
  have rF : ∀ u es, Pn j u es = [(46, ⟨u, false, 116, 4, es⟩)] := fun u es => if_neg h0
  have hjl : a + j - a = j := by omega
  have hgl : (((l.drop a).take j).map (shD (-(a : Int)))).length = j := by simp; omega
  rw [rE, rF, hjl]
  generalize ((l.drop a).take j).map (shD (-(a : Int))) = G at *
  have hgt : List.take j (G.map (av : AY → AV)) = G.map av := List.take_of_length_le (by simp; omega)
  simp +contextual -dsimp only [↓SD, SU, simprocAttr, -Nat.reduceMul, Int.natCast_add]
  refine Ae _ CE ?_
  simp +contextual -dsimp only [↓SD, SU, simprocAttr, -Nat.reduceMul, Int.lt_irrefl, Int.natCast_add, Aa, Ab, hgt, hgl, Nat.le_refl]
end Go.Proofs.YteeiaaogmjbcjaaGreat
