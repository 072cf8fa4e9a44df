/-
 Bp, Pat IN ROWS OF THEIR OWN: copies, marks, by abstract texts. Conditions: none. Printed by genown.py.
-/
import Derived.Test.YtjbcnilllfaipaaGreatYJ45
import Derived.Test.YtjbcnilllfaipaaGreatYJ11
set_option linter.unusedVariables false
set_option linter.unusedSimpArgs false
set_option maxRecDepth 100000
namespace Go.Proofs.YtjbcnilllfaipaaGreat
open Go.RowKit Go.Proofs.YtjbcnilllfaipaaGreat.Av Go.Proofs.YtjbcnilllfaipaaGreat.Ml
open Go.Proofs.YtjbcnilllfaipaaGreat.Av.AVal (av)
open OVal (ov oh on)
open Mk (mkv cnt)

instance : OVal Bp where
 ty := 162
 ov nm vs x := .agg [.int .i64 x.kind, .int .i64 x.n, .str x.s, ov (sub nm 0) vs x.kids]
 oh nm vs x := oh (sub nm 0) vs x.kids
 on nm x := on (sub nm 0) x.kids
 names nm vs x := OVal.names _ _ _
 inn nm x k h := (OVal.inn _ _ _ h).up
 self nm vs x := OVal.self _ _ _
 Gm nm vs vs' x h := by
  obtain ⟨a0, b0⟩ := OVal.Gm (sub nm 0) vs vs' x.kids (fun k hk => h k hk.up)
  simp only [a0, b0, and_self]
 Hk nm vs x hp h := by
  have h0 := OVal.Hk (sub nm 0) vs x.kids hp h
  show AV.agg [.int .i64 x.kind, .int .i64 x.n, .str x.s, (ov (sub nm 0) vs x.kids).pur (Cy (on (sub nm 0) x.kids) hp)] = av x
  rw [h0]; rfl
 dep nm vs x hp hp' h := by
  have h0 := OVal.dep (sub nm 0) vs x.kids hp hp' (fun k hk => h k hk.up)
  show AV.agg [.int .i64 x.kind, .int .i64 x.n, .str x.s, (ov (sub nm 0) vs x.kids).pur hp] = AV.agg [.int .i64 x.kind, .int .i64 x.n, .str x.s, (ov (sub nm 0) vs x.kids).pur hp']
  rw [h0]
 free nm vs x p h := by exact OVal.free _ _ _ p h
 JH nm vs x y hx := by
  simp only [AV.cells, List.mem_cons, List.not_mem_nil, or_false] at hx
  rcases hx with rfl | rfl | rfl | rfl <;> rfl
 ok _ _ _ := rfl
 agg _ _ _ := rfl
 len _ _ _ := rfl
theorem JU (nm : Nat) (vs : Nat → Nat) (x : Bp) : ov nm vs x = .agg [.int .i64 x.kind, .int .i64 x.n, .str x.s, .row (sub nm 0) (vs (sub nm 0)) x.kids.length] := eqq rfl
theorem OH (nm : Nat) (vs : Nat → Nat) (x : Bp) : oh nm vs x = oh (sub nm 0) vs x.kids := rfl

instance : Mk Bp := ⟨fun k x => ⟨k, k + 1, DQ (k + 1 + 1), mkL (k + 1 + 1 + 1) x.kids⟩, fun x => 3 + BG x.kids⟩
theorem Aa4 (k : Int) (x : Bp) : mkv k x = ⟨k, k + 1, DQ (k + 1 + 1), mkL (k + 1 + 1 + 1) x.kids⟩ := rfl
theorem ZS (x : Bp) : cnt x = 3 + BG x.kids := rfl
instance : MkB Bp := ⟨fun x => by
 have hbx : Ad.bulk x = Ad.bulk x.kind + Ad.bulk x.n + Ad.bulk x.s + Ad.bulk x.kids + 1 := rfl
 have hbx_0 : Ad.bulk x.kind = 1 := rfl
 have hbx_1 : Ad.bulk x.n = 1 := rfl
 have hbx_2 : Ad.bulk x.s = x.s.size + 1 := rfl
 have hbx_3 := BT x.kids
 rw [ZS]
 omega⟩

theorem S5 (nm : Nat) (x : Bp) (hx : Ad.bulk x ≤ 1099511627776) : Ay Tryz.prog 159 [av x] [] (Fu nm x) := by
 have hb : Ad.bulk x.kind + Ad.bulk x.n + Ad.bulk x.s + Ad.bulk x.kids + 1 ≤ 1099511627776 := hx
 refine Hz.H rfl ?_
 simp +contextual -dsimp only [↓SD, SU, simprocAttr, Hz, A8]
 (repeat' (first | intro _ | refine And.intro ?_ ?_))
 refine Bb [] (KX (sub nm 0) x.kids (by omega)) (by simp +contextual -dsimp only [↓SD, SU, simprocAttr]) ?_
 rintro r hp' ⟨v0, rfl, rfl⟩ H0 hH0
 rw [CK] at hH0
 have hold0 := GK hH0
 have ho0_0 : Bg H0 (oh (sub nm 0) v0 x.kids) := by rw [hH0]; exact AX (OVal.self _ _ _)
 have hr0_0 := AH ho0_0
 simp +contextual -dsimp only [↓SD, SU, simprocAttr, AO, BH, hold0, hr0_0]
 refine Af.post (oh nm v0 x) ?_
 simp +contextual -dsimp only [↓SD, SU, simprocAttr, BH, hold0, false_and, hr0_0]
 refine ⟨by rw [OH]; exact (by repeat (first | exact ho0_0 | refine ED ?_ (by omega))), v0, ?_, rfl⟩
 rw [JU]

theorem RW (nm : Nat) (l : List Bp) (hx : Ad.bulk l ≤ 1099511627776) : Ay Tryz.prog 142 [.sl (l.map av)] [] (Fu nm l) := by
 have hl := Ao l
 refine G8.H rfl ?_
 simp +contextual -dsimp only [↓SD, SU, simprocAttr, G8, Aa]
 refine ⟨by omega, fun v => ?_⟩
 refine Al (X := Nat × (Nat → Nat)) (fun x => ⟨[(0, .sl (l.map av)), (3, .row 7 v l.length), (4, .int .i64 x.1)], (7, ⟨v, false, 162, 4, Ct nm x.2 l (AV.agg [.int .i64 0, .int .i64 0, .str (bs []), .Ar]) x.1⟩) :: ohL nm x.2 0 (l.take x.1)⟩) (fun x => x.1 ≤ l.length) (fun x => l.length - x.1) (0, fun _ => 0) (Nat.zero_le _) (by simp +contextual -dsimp only [↓SD, SU, simprocAttr]) (by simp +contextual -dsimp only [↓SD, SU, simprocAttr, Hg, List.take_zero, LM]) ?_
 rintro ⟨k, vs⟩ hk
 dsimp only at hk ⊢
 by_cases hlt : k < l.length
 ·have e := getD_map av l k .top hlt
  have hbk : Ad.bulk l[k] ≤ 1099511627776 := by have := AW (List.getElem_mem hlt); omega
  have e1 := IK (nm := nm) (vs := vs) (AV.agg [.int .i64 0, .int .i64 0, .str (bs []), .Ar]) hk
  have e2 := IL (nm := nm) (vs := vs) (AV.agg [.int .i64 0, .int .i64 0, .str (bs []), .Ar]) hlt .top
  obtain ⟨H, hH⟩ : ∃ H, H = ((7, ⟨v, false, 162, 4, Ct nm vs l (AV.agg [.int .i64 0, .int .i64 0, .str (bs []), .Ar]) k⟩) :: ohL nm vs 0 (l.take k) : Hp) := ⟨_, rfl⟩
  have h7 : Aw H 7 = some ⟨v, false, 162, 4, Ct nm vs l (AV.agg [.int .i64 0, .int .i64 0, .str (bs []), .Ar]) k⟩ := by rw [hH]; exact Cj
  rw [← hH]
  simp +contextual -dsimp only [↓SD, SU, simprocAttr, Aa, hlt, e, A8, h7]
  have C := S5 (sub nm k) l[k] hbk
  rw [A8] at C
  refine Bb [] C (by simp +contextual -dsimp only [↓SD, SU, simprocAttr]) ?_
  rintro r hp' ⟨v1, rfl, rfl⟩ H1 hH1
  have h71 : Aw H1 7 = some ⟨v, false, 162, 4, Ct nm vs l (AV.agg [.int .i64 0, .int .i64 0, .str (bs []), .Ar]) k⟩ := by
   rw [hH1, CK, Dh (Ii fun h' => by have := h'.ge; omega)]; exact h7
  have e3 := IJ (nm := nm) (vs := v1) (vs' := vs) (z := (AV.agg [.int .i64 0, .int .i64 0, .str (bs []), .Ar])) hlt
  rw [JU] at e3
  simp +contextual -dsimp only [↓SD, SU, simprocAttr, Aa, hlt, e, A8, JU, h71, e1, e2, e3]
  rw [hH] at hH1
  refine ⟨by omega, Af.le ⟨(k + 1, glue (sub nm k) v1 vs), ⟨hlt, (by first | omega | (simp only; omega))⟩, rfl⟩ (by simp +contextual -dsimp only [↓SD, SU, simprocAttr, Int.natCast_add]) ?_⟩
  exact Mp hlt (by omega) hH1
 ·obtain rfl : k = l.length := by omega
  rw [List.take_length]
  have ef : Ct nm vs l (AV.agg [.int .i64 0, .int .i64 0, .str (bs []), .Ar]) l.length = ovL nm vs 0 l := by simp [Ct]
  rw [ef]
  obtain ⟨H, hH⟩ : ∃ H, H = ((7, ⟨v, false, 162, 4, ovL nm vs 0 l⟩) :: ohL nm vs 0 l : Hp) := ⟨_, rfl⟩
  rw [← hH]
  simp +contextual -dsimp only [↓SD, SU, simprocAttr, Aa, Nat.lt_irrefl]
  rw [hH]
  refine Af.ren 2 7 nm (v := v) (n := l.length) rfl Cj rfl fun v' => ?_
  obtain ⟨H', hH'⟩ : ∃ H', H' = ((nm, ⟨v', false, 162, 4, ovL nm vs 0 l⟩) :: BN [7] ((7, ⟨v, false, 162, 4, ovL nm vs 0 l⟩) :: ohL nm vs 0 l) : Hp) := ⟨_, rfl⟩
  have hr : Aw H' nm = some ⟨v', false, 162, 4, ovL nm vs 0 l⟩ := by rw [hH']; exact Cj
  have hle := Mf (α := Bp) (nm := nm) (j := 7) (l := l) (vs := vs) (by omega) hH'
  dsimp only
  rw [← hH']
  refine Af.post (oh nm (glue nm (fun k => if k = nm then v' else vs k) vs) l) ?_
  simp +contextual -dsimp only [↓SD, SU, simprocAttr, hr]
  exact ⟨hle, _, (Kw l).1.symm, rfl⟩

set_option maxHeartbeats 1000000 in
theorem OL (nm : Nat) (vs : Nat → Nat) (l : List Bp) (k : Int) (h0 : 1 ≤ k) (h1 : k + (Ad.bulk l : Int) ≤ 4611686018427387904) : Ay Tryz.prog 110 [ov nm vs l, .int .i64 k] (oh nm vs l) (Fg nm vs k l) := by
 refine Ha.H rfl ?_
 simp +contextual -dsimp only [↓SD, SU, simprocAttr, Ha, AO]
 refine Al (X := Nat) (fun i => ⟨[(0, .row nm (vs nm) l.length), (1, .int .i64 (k + (BG (l.take i) : Int))), (5, .int .i64 i)], oh nm vs (BD k l i)⟩) (fun i => i ≤ l.length) (fun i => l.length - i) 0 (Nat.zero_le _) (by simp +contextual -dsimp only [↓SD, SU, simprocAttr, List.take_zero, FV, Int.natCast_zero, Int.add_zero]) (by rw [Fy]; exact OVal.self _ _ _) ?_
 rintro i hi
 by_cases hlt : i < l.length
 ·have hLi : i < (BD k l i).length := by rw [Dg hi]; exact hlt
  have hLl : (BD k l i).length = l.length := Dg hi
  have hgi := Gh hlt hLi
  have hsf := Gg (k := k) hlt
  have hroom := Ei hlt
  have htake := EP hlt
  have hle := HP l (i + 1)
  have e := Ht nm vs (BD k l i) hLi .top
  rw [hgi, JU] at e
  have hel := Kx (nm := nm) (vs := vs) hLi
  rw [hgi, OH] at hel
  have hr := DW nm vs (BD k l i)
  have hlen : (ovL nm vs 0 (BD k l i)).length = l.length := by rw [EI, hLl]
  obtain ⟨x, hx⟩ : ∃ x, x = l[i] := ⟨_, rfl⟩
  obtain ⟨K, hK⟩ : ∃ K, K = k + (BG (l.take i) : Int) := ⟨_, rfl⟩
  try rw [← hx] at e
  try rw [← hx] at hroom
  try rw [← hx] at htake
  try rw [← hx] at hel
  rw [← hx] at hsf
  rw [← hK] at hsf
  rw [FZ] at hr
  obtain ⟨E, hE⟩ : ∃ E, E = ovL nm vs 0 (BD k l i) := ⟨_, rfl⟩
  have hcount : cnt x = 3 + BG x.kids := rfl
  rw [hcount] at htake
  have hbx : Ad.bulk x = Ad.bulk x.kind + Ad.bulk x.n + Ad.bulk x.s + Ad.bulk x.kids + 1 := rfl
  have hbx_0 : Ad.bulk x.kind = 1 := rfl
  have hbx_1 : Ad.bulk x.n = 1 := rfl
  have hbx_2 : Ad.bulk x.s = x.s.size + 1 := rfl
  have hbx_3 := BT x.kids
  have hbl := Ao l
  have hKn : k + (BG (l.take (i + 1)) : Int) = K + 1 + 1 + 1 + (BG x.kids : Int) := by rw [htake]; omega
  have hKb : K + (Ad.bulk x : Int) ≤ 4611686018427387904 := by omega
  have hK1 : 1 ≤ K := by omega
  have hmk : ov (sub nm i) vs (mkv K x) = AV.agg [.int .i64 (K), .int .i64 (K + 1), .str (DQ (K + 1 + 1)), .row (sub (sub nm i) 0) (vs (sub (sub nm i) 0)) x.kids.length] := by rw [Aa4, JU]; simp only [DH]
  have hus : ovL nm vs 0 ((BD k l i).set i (mkv K x)) = E.set i (AV.agg [.int .i64 (K), .int .i64 (K + 1), .str (DQ (K + 1 + 1)), .row (sub (sub nm i) 0) (vs (sub (sub nm i) 0)) x.kids.length]) := by rw [Hs, hmk, ← hE]
  rw [← hE] at e hlen hr
  rw [← hK]
  have gs : ∀ a, (E.set i a).getD i .top = a := fun a => by rw [List.getD_eq_getElem?_getD, List.getElem?_set_self (by rw [hlen]; exact hlt)]; rfl
  have ls : ∀ a, (E.set i a).length = l.length := fun a => by rw [List.length_set, hlen]
  obtain ⟨H, hH⟩ : ∃ H, H = oh nm vs (BD k l i) := ⟨_, rfl⟩
  rw [← hH] at hr hel
  have hq : ∀ q, ¬ InT (sub nm i) q → q ≠ nm → Aw H q = Aw (oh nm vs (BD k l i)) q := fun q _ _ => by rw [hH]
  rw [show (AVal.n Bp) = 4 from rfl] at hr
  rw [← hH]
  clear hH
  have hl0 := hel
  have hk0 := AH hl0
  have hn0 : ¬ InT (sub (sub nm i) 0) nm := IX
  have hb0 : (nm == sub (sub nm i) 0) = false := Ih
  simp +contextual -dsimp only [↓SD, SU, simprocAttr, hlt, hlen, e, gs, ls, List.set_set, AO, false_and, hr, hk0, hb0]
  repeat (refine And.intro (by omega) ?_)
  refine Ab _ (Ex (K + 1 + 1) (by omega) (by omega)) ?_
  simp +contextual -dsimp only [↓SD, SU, simprocAttr, hlt, hlen, e, gs, ls, List.set_set, AO, false_and, hr, hk0, hb0]
  repeat (refine And.intro (by omega) ?_)
  refine Bb (on (sub (sub nm i) 0) x.kids) (I1 (sub (sub nm i) 0) vs x.kids _ (by omega) (by omega)) (Fm (by repeat (first | exact hl0 | refine Ai hn0 ?_))) ?_
  rintro r hp' ⟨rfl, rfl⟩ H0 hH0
  have hr0 := GY hH0 hn0 Cj
  have hq0 := Ig (X := fun q => Aw (oh nm vs (BD k l i)) q) hH0 (by repeat (first | exact hq | refine DN ?_))
  have hd0 := DG hH0
  rw [Ff]
  simp +contextual -dsimp only [↓SD, SU, simprocAttr, hlt, hlen, e, gs, ls, List.set_set, AO, false_and, hr0, hb0]
  repeat (refine And.intro (by omega) ?_)
  refine Af.le ⟨i + 1, ⟨hlt, (by first | omega | (simp only; omega))⟩, rfl⟩ (by simp +contextual -dsimp only [↓SD, SU, simprocAttr, Int.natCast_add, hKn]) ?_
  rw [← hsf]
  refine JY hLi ?_ ?_ ?_
  ·repeat (first | exact hq0 | refine DN ?_)
  ·rw [FZ, hus]; first | exact Cj | exact hr0
  ·rw [OH]; exact (by repeat (first | exact hd0 | refine Ai hn0 ?_))
 ·obtain rfl : i = l.length := by omega
  rw [Fz, ER]
  have hr := DW nm vs (mkL k l)
  have hs := OVal.self nm vs (mkL k l)
  obtain ⟨H, hH⟩ : ∃ H, H = oh nm vs (mkL k l) := ⟨_, rfl⟩
  rw [← hH]
  simp +contextual -dsimp only [↓SD, SU, simprocAttr, Nat.lt_irrefl, Aa]
  refine Af.post H ?_
  simp +contextual -dsimp only [↓SD, SU, simprocAttr]
  exact ⟨by rw [hH]; exact hs, rfl, by rw [hH]; rfl⟩

instance : OVal Pat where
 ty := 112
 ov nm vs x := .agg [ov (sub nm 0) vs x.nodes]
 oh nm vs x := oh (sub nm 0) vs x.nodes
 on nm x := on (sub nm 0) x.nodes
 names nm vs x := OVal.names _ _ _
 inn nm x k h := (OVal.inn _ _ _ h).up
 self nm vs x := OVal.self _ _ _
 Gm nm vs vs' x h := by
  obtain ⟨a0, b0⟩ := OVal.Gm (sub nm 0) vs vs' x.nodes (fun k hk => h k hk.up)
  simp only [a0, b0, and_self]
 Hk nm vs x hp h := by
  have h0 := OVal.Hk (sub nm 0) vs x.nodes hp h
  show AV.agg [(ov (sub nm 0) vs x.nodes).pur (Cy (on (sub nm 0) x.nodes) hp)] = av x
  rw [h0]; rfl
 dep nm vs x hp hp' h := by
  have h0 := OVal.dep (sub nm 0) vs x.nodes hp hp' (fun k hk => h k hk.up)
  show AV.agg [(ov (sub nm 0) vs x.nodes).pur hp] = AV.agg [(ov (sub nm 0) vs x.nodes).pur hp']
  rw [h0]
 free nm vs x p h := by exact OVal.free _ _ _ p h
 JH nm vs x y hx := by
  simp only [AV.cells, List.mem_cons, List.not_mem_nil, or_false] at hx
  subst hx <;> rfl
 ok _ _ _ := rfl
 agg _ _ _ := rfl
 len _ _ _ := rfl
theorem Ov (nm : Nat) (vs : Nat → Nat) (x : Pat) : ov nm vs x = .agg [.row (sub nm 0) (vs (sub nm 0)) x.nodes.length] := eqq rfl
theorem Wn (nm : Nat) (vs : Nat → Nat) (x : Pat) : oh nm vs x = oh (sub nm 0) vs x.nodes := rfl

instance : Mk Pat := ⟨fun k x => ⟨mkL (k) x.nodes⟩, fun x => BG x.nodes⟩
theorem AdC (k : Int) (x : Pat) : mkv k x = ⟨mkL (k) x.nodes⟩ := rfl
theorem AcQ (x : Pat) : cnt x = BG x.nodes := rfl
instance : MkB Pat := ⟨fun x => by
 have hbx : Ad.bulk x = Ad.bulk x.nodes + 1 := rfl
 have hbx_0 := BT x.nodes
 rw [AcQ]
 omega⟩

theorem Zd (nm : Nat) (x : Pat) (hx : Ad.bulk x ≤ 1099511627776) : Ay Tryz.prog 121 [av x] [] (Fu nm x) := by
 have hb : Ad.bulk x.nodes + 1 ≤ 1099511627776 := hx
 refine Jq.H rfl ?_
 simp +contextual -dsimp only [↓SD, SU, simprocAttr, Jq, C9]
 (repeat' (first | intro _ | refine And.intro ?_ ?_))
 refine Bb [] (RW (sub nm 0) x.nodes (by omega)) (by simp +contextual -dsimp only [↓SD, SU, simprocAttr]) ?_
 rintro r hp' ⟨v0, rfl, rfl⟩ H0 hH0
 rw [CK] at hH0
 have hold0 := GK hH0
 have ho0_0 : Bg H0 (oh (sub nm 0) v0 x.nodes) := by rw [hH0]; exact AX (OVal.self _ _ _)
 have hr0_0 := AH ho0_0
 simp +contextual -dsimp only [↓SD, SU, simprocAttr, AO, BH, hold0, hr0_0]
 refine Af.post (oh nm v0 x) ?_
 simp +contextual -dsimp only [↓SD, SU, simprocAttr, BH, hold0, false_and, hr0_0]
 refine ⟨by rw [Wn]; exact (by repeat (first | exact ho0_0 | refine ED ?_ (by omega))), v0, ?_, rfl⟩
 rw [Ov]

theorem V2 (nm : Nat) (l : List Pat) (hx : Ad.bulk l ≤ 1099511627776) : Ay Tryz.prog 84 [.sl (l.map av)] [] (Fu nm l) := by
 have hl := Ao l
 refine Iv.H rfl ?_
 simp +contextual -dsimp only [↓SD, SU, simprocAttr, Iv, Aa]
 refine ⟨by omega, fun v => ?_⟩
 refine Al (X := Nat × (Nat → Nat)) (fun x => ⟨[(0, .sl (l.map av)), (3, .row 7 v l.length), (4, .int .i64 x.1)], (7, ⟨v, false, 112, 1, Ct nm x.2 l (AV.agg [.Ar]) x.1⟩) :: ohL nm x.2 0 (l.take x.1)⟩) (fun x => x.1 ≤ l.length) (fun x => l.length - x.1) (0, fun _ => 0) (Nat.zero_le _) (by simp +contextual -dsimp only [↓SD, SU, simprocAttr]) (by simp +contextual -dsimp only [↓SD, SU, simprocAttr, Hg, List.take_zero, LM]) ?_
 rintro ⟨k, vs⟩ hk
 dsimp only at hk ⊢
 by_cases hlt : k < l.length
 ·have e := getD_map av l k .top hlt
  have hbk : Ad.bulk l[k] ≤ 1099511627776 := by have := AW (List.getElem_mem hlt); omega
  have e1 := IK (nm := nm) (vs := vs) (AV.agg [.Ar]) hk
  have e2 := IL (nm := nm) (vs := vs) (AV.agg [.Ar]) hlt .top
  obtain ⟨H, hH⟩ : ∃ H, H = ((7, ⟨v, false, 112, 1, Ct nm vs l (AV.agg [.Ar]) k⟩) :: ohL nm vs 0 (l.take k) : Hp) := ⟨_, rfl⟩
  have h7 : Aw H 7 = some ⟨v, false, 112, 1, Ct nm vs l (AV.agg [.Ar]) k⟩ := by rw [hH]; exact Cj
  rw [← hH]
  simp +contextual -dsimp only [↓SD, SU, simprocAttr, Aa, hlt, e, C9, h7]
  have C := Zd (sub nm k) l[k] hbk
  rw [C9] at C
  refine Bb [] C (by simp +contextual -dsimp only [↓SD, SU, simprocAttr]) ?_
  rintro r hp' ⟨v1, rfl, rfl⟩ H1 hH1
  have h71 : Aw H1 7 = some ⟨v, false, 112, 1, Ct nm vs l (AV.agg [.Ar]) k⟩ := by
   rw [hH1, CK, Dh (Ii fun h' => by have := h'.ge; omega)]; exact h7
  have e3 := IJ (nm := nm) (vs := v1) (vs' := vs) (z := (AV.agg [.Ar])) hlt
  rw [Ov] at e3
  simp +contextual -dsimp only [↓SD, SU, simprocAttr, Aa, hlt, e, C9, Ov, h71, e1, e2, e3]
  rw [hH] at hH1
  refine ⟨by omega, Af.le ⟨(k + 1, glue (sub nm k) v1 vs), ⟨hlt, (by first | omega | (simp only; omega))⟩, rfl⟩ (by simp +contextual -dsimp only [↓SD, SU, simprocAttr, Int.natCast_add]) ?_⟩
  exact Mp hlt (by omega) hH1
 ·obtain rfl : k = l.length := by omega
  rw [List.take_length]
  have ef : Ct nm vs l (AV.agg [.Ar]) l.length = ovL nm vs 0 l := by simp [Ct]
  rw [ef]
  obtain ⟨H, hH⟩ : ∃ H, H = ((7, ⟨v, false, 112, 1, ovL nm vs 0 l⟩) :: ohL nm vs 0 l : Hp) := ⟨_, rfl⟩
  rw [← hH]
  simp +contextual -dsimp only [↓SD, SU, simprocAttr, Aa, Nat.lt_irrefl]
  rw [hH]
  refine Af.ren 2 7 nm (v := v) (n := l.length) rfl Cj rfl fun v' => ?_
  obtain ⟨H', hH'⟩ : ∃ H', H' = ((nm, ⟨v', false, 112, 1, ovL nm vs 0 l⟩) :: BN [7] ((7, ⟨v, false, 112, 1, ovL nm vs 0 l⟩) :: ohL nm vs 0 l) : Hp) := ⟨_, rfl⟩
  have hr : Aw H' nm = some ⟨v', false, 112, 1, ovL nm vs 0 l⟩ := by rw [hH']; exact Cj
  have hle := Mf (α := Pat) (nm := nm) (j := 7) (l := l) (vs := vs) (by omega) hH'
  dsimp only
  rw [← hH']
  refine Af.post (oh nm (glue nm (fun k => if k = nm then v' else vs k) vs) l) ?_
  simp +contextual -dsimp only [↓SD, SU, simprocAttr, hr]
  exact ⟨hle, _, (Kw l).1.symm, rfl⟩

set_option maxHeartbeats 1000000 in
theorem Sm (nm : Nat) (vs : Nat → Nat) (l : List Pat) (k : Int) (h0 : 1 ≤ k) (h1 : k + (Ad.bulk l : Int) ≤ 4611686018427387904) : Ay Tryz.prog 63 [ov nm vs l, .int .i64 k] (oh nm vs l) (Fg nm vs k l) := by
 refine IB.H rfl ?_
 simp +contextual -dsimp only [↓SD, SU, simprocAttr, IB, AO]
 refine Al (X := Nat) (fun i => ⟨[(0, .row nm (vs nm) l.length), (1, .int .i64 (k + (BG (l.take i) : Int))), (5, .int .i64 i)], oh nm vs (BD k l i)⟩) (fun i => i ≤ l.length) (fun i => l.length - i) 0 (Nat.zero_le _) (by simp +contextual -dsimp only [↓SD, SU, simprocAttr, List.take_zero, FV, Int.natCast_zero, Int.add_zero]) (by rw [Fy]; exact OVal.self _ _ _) ?_
 rintro i hi
 by_cases hlt : i < l.length
 ·have hLi : i < (BD k l i).length := by rw [Dg hi]; exact hlt
  have hLl : (BD k l i).length = l.length := Dg hi
  have hgi := Gh hlt hLi
  have hsf := Gg (k := k) hlt
  have hroom := Ei hlt
  have htake := EP hlt
  have hle := HP l (i + 1)
  have e := Ht nm vs (BD k l i) hLi .top
  rw [hgi, Ov] at e
  have hel := Kx (nm := nm) (vs := vs) hLi
  rw [hgi, Wn] at hel
  have hr := DW nm vs (BD k l i)
  have hlen : (ovL nm vs 0 (BD k l i)).length = l.length := by rw [EI, hLl]
  obtain ⟨x, hx⟩ : ∃ x, x = l[i] := ⟨_, rfl⟩
  obtain ⟨K, hK⟩ : ∃ K, K = k + (BG (l.take i) : Int) := ⟨_, rfl⟩
  try rw [← hx] at e
  try rw [← hx] at hroom
  try rw [← hx] at htake
  try rw [← hx] at hel
  rw [← hx] at hsf
  rw [← hK] at hsf
  rw [FZ] at hr
  obtain ⟨E, hE⟩ : ∃ E, E = ovL nm vs 0 (BD k l i) := ⟨_, rfl⟩
  have hcount : cnt x = BG x.nodes := rfl
  rw [hcount] at htake
  have hbx : Ad.bulk x = Ad.bulk x.nodes + 1 := rfl
  have hbx_0 := BT x.nodes
  have hbl := Ao l
  have hKn : k + (BG (l.take (i + 1)) : Int) = K + (BG x.nodes : Int) := by rw [htake]; omega
  have hKb : K + (Ad.bulk x : Int) ≤ 4611686018427387904 := by omega
  have hK1 : 1 ≤ K := by omega
  have hmk : ov (sub nm i) vs (mkv K x) = AV.agg [.row (sub (sub nm i) 0) (vs (sub (sub nm i) 0)) x.nodes.length] := by rw [AdC, Ov]; simp only [DH]
  have hus : ovL nm vs 0 ((BD k l i).set i (mkv K x)) = E.set i (AV.agg [.row (sub (sub nm i) 0) (vs (sub (sub nm i) 0)) x.nodes.length]) := by rw [Hs, hmk, ← hE]
  rw [← hE] at e hlen hr
  rw [← hK]
  have gs : ∀ a, (E.set i a).getD i .top = a := fun a => by rw [List.getD_eq_getElem?_getD, List.getElem?_set_self (by rw [hlen]; exact hlt)]; rfl
  have ls : ∀ a, (E.set i a).length = l.length := fun a => by rw [List.length_set, hlen]
  obtain ⟨H, hH⟩ : ∃ H, H = oh nm vs (BD k l i) := ⟨_, rfl⟩
  rw [← hH] at hr hel
  have hq : ∀ q, ¬ InT (sub nm i) q → q ≠ nm → Aw H q = Aw (oh nm vs (BD k l i)) q := fun q _ _ => by rw [hH]
  rw [show (AVal.n Pat) = 1 from rfl] at hr
  rw [← hH]
  clear hH
  have hl0 := hel
  have hk0 := AH hl0
  have hn0 : ¬ InT (sub (sub nm i) 0) nm := IX
  have hb0 : (nm == sub (sub nm i) 0) = false := Ih
  simp +contextual -dsimp only [↓SD, SU, simprocAttr, hlt, hlen, e, gs, ls, List.set_set, AO, false_and, hr, hk0, hb0]
  repeat (refine And.intro (by omega) ?_)
  refine Bb (on (sub (sub nm i) 0) x.nodes) (OL (sub (sub nm i) 0) vs x.nodes _ (by omega) (by omega)) (Fm (by repeat (first | exact hl0 | refine Ai hn0 ?_))) ?_
  rintro r hp' ⟨rfl, rfl⟩ H0 hH0
  have hr0 := GY hH0 hn0 hr
  have hq0 := Ig (X := fun q => Aw (oh nm vs (BD k l i)) q) hH0 (by repeat (first | exact hq | refine DN ?_))
  have hd0 := DG hH0
  rw [Ff]
  simp +contextual -dsimp only [↓SD, SU, simprocAttr, hlt, hlen, e, gs, ls, List.set_set, AO, false_and, hr0, hb0]
  repeat (refine And.intro (by omega) ?_)
  refine Af.le ⟨i + 1, ⟨hlt, (by first | omega | (simp only; omega))⟩, rfl⟩ (by simp +contextual -dsimp only [↓SD, SU, simprocAttr, Int.natCast_add, hKn]) ?_
  rw [← hsf]
  refine JY hLi ?_ ?_ ?_
  ·repeat (first | exact hq0 | refine DN ?_)
  ·rw [FZ, hus, Aan (by rw [hlen]; exact hlt) e]; exact hr0
  ·rw [Wn]; exact (by repeat (first | exact hd0 | refine Ai hn0 ?_))
 ·obtain rfl : i = l.length := by omega
  rw [Fz, ER]
  have hr := DW nm vs (mkL k l)
  have hs := OVal.self nm vs (mkL k l)
  obtain ⟨H, hH⟩ : ∃ H, H = oh nm vs (mkL k l) := ⟨_, rfl⟩
  rw [← hH]
  simp +contextual -dsimp only [↓SD, SU, simprocAttr, Nat.lt_irrefl, Aa]
  refine Af.post H ?_
  simp +contextual -dsimp only [↓SD, SU, simprocAttr]
  exact ⟨by rw [hH]; exact hs, rfl, by rw [hH]; rfl⟩

end Go.Proofs.YtjbcnilllfaipaaGreat
