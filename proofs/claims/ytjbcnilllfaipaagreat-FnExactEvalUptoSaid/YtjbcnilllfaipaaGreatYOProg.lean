/-
 Bw, Ty, Con, Type, Node, Program IN ROWS OF THEIR OWN: copies, marks, by abstract texts. Conditions: none. Printed by genown.py.
-/
import Derived.Test.YtjbcnilllfaipaaGreatYOPat
import Derived.Test.YtjbcnilllfaipaaGreatYGProg
import Derived.Test.YtjbcnilllfaipaaGreatYJ45
set_option linter.unusedVariables false
set_option linter.unusedSimpArgs false
set_option maxRecDepth 100000
namespace Go.Proofs.YtjbcnilllfaipaaGreat
open Go.RowKit Go.Proofs.YtjbcnilllfaipaaGreat.Av Go.Proofs.YtjbcnilllfaipaaGreat.Ml
open Go.Proofs.YtjbcnilllfaipaaGreat.Av.AVal (av)
open OVal (ov oh on)
open Mk (mkv cnt)

instance : OVal Bw := WG 137 (fun y x hx => by
 rw [AY] at hx
 simp only [AV.cells, List.mem_cons, List.not_mem_nil, or_false] at hx
 rcases hx with rfl | rfl | rfl <;> rfl)

instance : Mk Bw := ⟨fun k x => ⟨k, DQ (k + 1), k + 1 + 1⟩, fun x => 3⟩
theorem Zy (k : Int) (x : Bw) : mkv k x = ⟨k, DQ (k + 1), k + 1 + 1⟩ := rfl
theorem WQ (x : Bw) : cnt x = 3 := rfl
instance : MkB Bw := ⟨fun x => by
 have hbx : Ad.bulk x = Ad.bulk x.var + Ad.bulk x.name + Ad.bulk x.arity + 1 := rfl
 have hbx_0 : Ad.bulk x.var = 1 := rfl
 have hbx_1 : Ad.bulk x.name = x.name.size + 1 := rfl
 have hbx_2 : Ad.bulk x.arity = 1 := rfl
 rw [WQ]
 omega⟩

theorem PX (nm : Nat) (l : List Bw) (hx : Ad.bulk l ≤ 1099511627776) : Ay Tryz.prog 158 [.sl (l.map av)] [] (Fu nm l) := by
 have hl := Ao l
 refine Gt.H rfl ?_
 simp +contextual -dsimp only [↓SD, SU, simprocAttr, Gt, Aa]
 refine ⟨by omega, fun v => ?_⟩
 refine Al (X := Nat × (Nat → Nat)) (fun x => ⟨[(0, .sl (l.map av)), (3, .row 7 v l.length), (4, .int .i64 x.1)], (7, ⟨v, false, 137, 3, FD l (AV.agg [.int .i64 0, .str (bs []), .int .i64 0]) x.1⟩) :: []⟩) (fun x => x.1 ≤ l.length) (fun x => l.length - x.1) (0, fun _ => 0) (Nat.zero_le _) (by simp +contextual -dsimp only [↓SD, SU, simprocAttr]) (by simp +contextual -dsimp only [↓SD, SU, simprocAttr, Eg]) ?_
 rintro ⟨k, vs⟩ hk
 dsimp only at hk ⊢
 by_cases hlt : k < l.length
 ·have e := getD_map av l k .top hlt
  have hbk : Ad.bulk l[k] ≤ 1099511627776 := by have := AW (List.getElem_mem hlt); omega
  have e1 := Cv (AV.agg [.int .i64 0, .str (bs []), .int .i64 0]) hk
  have e2 := EO (AV.agg [.int .i64 0, .str (bs []), .int .i64 0]) hlt .top
  have e3 := EN (z := (AV.agg [.int .i64 0, .str (bs []), .int .i64 0])) hlt rfl
  rw [AY] at e3
  simp +contextual -dsimp only [↓SD, SU, simprocAttr, Aa, hlt, e, AY]
  have C := M6 l[k] hbk
  rw [AY] at C
  refine Ab _ C ?_
  simp +contextual -dsimp only [↓SD, SU, simprocAttr, Aa, hlt, e, AY, e1, e2, e3]
  refine ⟨by omega, Af.le ⟨(k + 1, vs), ⟨hlt, (by first | omega | (simp only; omega))⟩, rfl⟩ (by simp +contextual -dsimp only [↓SD, SU, simprocAttr, Int.natCast_add]) (by simp +contextual -dsimp only [↓SD, SU, simprocAttr, e2, e3])⟩
 ·obtain rfl : k = l.length := by omega
  simp +contextual -dsimp only [↓SD, SU, simprocAttr, Aa, Nat.lt_irrefl, Eh]
  refine Af.ren 2 7 nm (v := v) (n := l.length) rfl Cj rfl fun v' => ?_
  refine Af.post (oh nm (fun _ => v') l) ?_
  rw [NV (fun _ _ _ => rfl) (fun _ _ _ => rfl)]
  simp +contextual -dsimp only [↓SD, SU, simprocAttr, Cj, Dt, Mb]
  exact ⟨rfl, _, rfl, (NV (fun _ _ _ => rfl) (fun _ _ _ => rfl) nm (fun _ => v') l).symm⟩

set_option maxHeartbeats 1000000 in
theorem NG (nm : Nat) (vs : Nat → Nat) (l : List Bw) (k : Int) (h0 : 1 ≤ k) (h1 : k + (Ad.bulk l : Int) ≤ 4611686018427387904) : Ay Tryz.prog 109 [ov nm vs l, .int .i64 k] (oh nm vs l) (Fg nm vs k l) := by
 refine Gv.H rfl ?_
 simp +contextual -dsimp only [↓SD, SU, simprocAttr, Gv, AO]
 refine Al (X := Nat) (fun i => ⟨[(0, .row nm (vs nm) l.length), (1, .int .i64 (k + (BG (l.take i) : Int))), (5, .int .i64 i)], oh nm vs (BD k l i)⟩) (fun i => i ≤ l.length) (fun i => l.length - i) 0 (Nat.zero_le _) (by simp +contextual -dsimp only [↓SD, SU, simprocAttr, List.take_zero, FV, Int.natCast_zero, Int.add_zero]) (by rw [Fy]; exact OVal.self _ _ _) ?_
 rintro i hi
 by_cases hlt : i < l.length
 ·have hLi : i < (BD k l i).length := by rw [Dg hi]; exact hlt
  have hLl : (BD k l i).length = l.length := Dg hi
  have hgi := Gh hlt hLi
  have hsf := Gg (k := k) hlt
  have hroom := Ei hlt
  have htake := EP hlt
  have hle := HP l (i + 1)
  have e := Ht nm vs (BD k l i) hLi .top
  rw [hgi, show ∀ y : Bw, ov (sub nm i) vs y = av y from fun _ => rfl, AY] at e
  have hr := DW nm vs (BD k l i)
  have hlen : (ovL nm vs 0 (BD k l i)).length = l.length := by rw [EI, hLl]
  obtain ⟨x, hx⟩ : ∃ x, x = l[i] := ⟨_, rfl⟩
  obtain ⟨K, hK⟩ : ∃ K, K = k + (BG (l.take i) : Int) := ⟨_, rfl⟩
  try rw [← hx] at e
  try rw [← hx] at hroom
  try rw [← hx] at htake
  rw [← hx] at hsf
  rw [← hK] at hsf
  rw [FZ] at hr
  obtain ⟨E, hE⟩ : ∃ E, E = ovL nm vs 0 (BD k l i) := ⟨_, rfl⟩
  have hcount : cnt x = 3 := rfl
  rw [hcount] at htake
  have hbx : Ad.bulk x = Ad.bulk x.var + Ad.bulk x.name + Ad.bulk x.arity + 1 := rfl
  have hbx_0 : Ad.bulk x.var = 1 := rfl
  have hbx_1 : Ad.bulk x.name = x.name.size + 1 := rfl
  have hbx_2 : Ad.bulk x.arity = 1 := rfl
  have hbl := Ao l
  have hKn : k + (BG (l.take (i + 1)) : Int) = K + 1 + 1 + 1 := by rw [htake]; omega
  have hKb : K + (Ad.bulk x : Int) ≤ 4611686018427387904 := by omega
  have hK1 : 1 ≤ K := by omega
  have hmk : ov (sub nm i) vs (mkv K x) = AV.agg [.int .i64 (K), .str (DQ (K + 1)), .int .i64 (K + 1 + 1)] := by rw [show ∀ y : Bw, ov (sub nm i) vs y = av y from fun _ => rfl, Zy, AY]
  have hus : ovL nm vs 0 ((BD k l i).set i (mkv K x)) = E.set i (AV.agg [.int .i64 (K), .str (DQ (K + 1)), .int .i64 (K + 1 + 1)]) := by rw [Hs, hmk, ← hE]
  rw [← hE] at e hlen hr
  rw [← hK]
  have gs : ∀ a, (E.set i a).getD i .top = a := fun a => by rw [List.getD_eq_getElem?_getD, List.getElem?_set_self (by rw [hlen]; exact hlt)]; rfl
  have ls : ∀ a, (E.set i a).length = l.length := fun a => by rw [List.length_set, hlen]
  obtain ⟨H, hH⟩ : ∃ H, H = oh nm vs (BD k l i) := ⟨_, rfl⟩
  rw [← hH] at hr
  have hq : ∀ q, ¬ InT (sub nm i) q → q ≠ nm → Aw H q = Aw (oh nm vs (BD k l i)) q := fun q _ _ => by rw [hH]
  rw [show (AVal.n Bw) = 3 from rfl] at hr
  rw [← hH]
  clear hH
  simp +contextual -dsimp only [↓SD, SU, simprocAttr, hlt, hlen, e, gs, ls, List.set_set, AO, false_and, hr]
  repeat (refine And.intro (by omega) ?_)
  refine Ab _ (Ex (K + 1) (by omega) (by omega)) ?_
  simp +contextual -dsimp only [↓SD, SU, simprocAttr, hlt, hlen, e, gs, ls, List.set_set, AO, false_and, hr]
  repeat (refine And.intro (by omega) ?_)
  refine Af.le ⟨i + 1, ⟨hlt, (by first | omega | (simp only; omega))⟩, rfl⟩ (by simp +contextual -dsimp only [↓SD, SU, simprocAttr, Int.natCast_add, hKn]) ?_
  rw [← hsf]
  refine JY hLi ?_ ?_ ?_
  ·repeat (first | exact hq | refine DN ?_)
  ·rw [FZ, hus]; first | exact Cj | exact hr
  ·exact trivial
 ·obtain rfl : i = l.length := by omega
  rw [Fz, ER]
  have hr := DW nm vs (mkL k l)
  have hs := OVal.self nm vs (mkL k l)
  obtain ⟨H, hH⟩ : ∃ H, H = oh nm vs (mkL k l) := ⟨_, rfl⟩
  rw [← hH]
  simp +contextual -dsimp only [↓SD, SU, simprocAttr, Nat.lt_irrefl, Aa]
  refine Af.post H ?_
  simp +contextual -dsimp only [↓SD, SU, simprocAttr]
  exact ⟨by rw [hH]; exact hs, rfl, by rw [hH]; rfl⟩

instance : OVal Ty where
 ty := 90
 ov nm vs x := .agg [ov (sub nm 0) vs x.items]
 oh nm vs x := oh (sub nm 0) vs x.items
 on nm x := on (sub nm 0) x.items
 names nm vs x := OVal.names _ _ _
 inn nm x k h := (OVal.inn _ _ _ h).up
 self nm vs x := OVal.self _ _ _
 Gm nm vs vs' x h := by
  obtain ⟨a0, b0⟩ := OVal.Gm (sub nm 0) vs vs' x.items (fun k hk => h k hk.up)
  simp only [a0, b0, and_self]
 Hk nm vs x hp h := by
  have h0 := OVal.Hk (sub nm 0) vs x.items hp h
  show AV.agg [(ov (sub nm 0) vs x.items).pur (Cy (on (sub nm 0) x.items) hp)] = av x
  rw [h0]; rfl
 dep nm vs x hp hp' h := by
  have h0 := OVal.dep (sub nm 0) vs x.items hp hp' (fun k hk => h k hk.up)
  show AV.agg [(ov (sub nm 0) vs x.items).pur hp] = AV.agg [(ov (sub nm 0) vs x.items).pur hp']
  rw [h0]
 free nm vs x p h := by exact OVal.free _ _ _ p h
 JH nm vs x y hx := by
  simp only [AV.cells, List.mem_cons, List.not_mem_nil, or_false] at hx
  subst hx <;> rfl
 ok _ _ _ := rfl
 agg _ _ _ := rfl
 len _ _ _ := rfl
theorem Ac3 (nm : Nat) (vs : Nat → Nat) (x : Ty) : ov nm vs x = .agg [.row (sub nm 0) (vs (sub nm 0)) x.items.length] := eqq rfl
theorem Ac6 (nm : Nat) (vs : Nat → Nat) (x : Ty) : oh nm vs x = oh (sub nm 0) vs x.items := rfl

instance : Mk Ty := ⟨fun k x => ⟨mkL (k) x.items⟩, fun x => BG x.items⟩
theorem AdL (x : Ty) : cnt x = BG x.items := rfl
instance : MkB Ty := ⟨fun x => by
 have hbx : Ad.bulk x = Ad.bulk x.items + 1 := rfl
 have hbx_0 := BT x.items
 rw [AdL]
 omega⟩

theorem Aaf (nm : Nat) (x : Ty) (hx : Ad.bulk x ≤ 1099511627776) : Ay Tryz.prog 141 [av x] [] (Fu nm x) := by
 have hb : Ad.bulk x.items + 1 ≤ 1099511627776 := hx
 refine J3.H rfl ?_
 simp +contextual -dsimp only [↓SD, SU, simprocAttr, J3, Mw]
 (repeat' (first | intro _ | refine And.intro ?_ ?_))
 refine Bb [] (PX (sub nm 0) x.items (by omega)) (by simp +contextual -dsimp only [↓SD, SU, simprocAttr]) ?_
 rintro r hp' ⟨v0, rfl, rfl⟩ H0 hH0
 rw [CK] at hH0
 have hold0 := GK hH0
 have ho0_0 : Bg H0 (oh (sub nm 0) v0 x.items) := by rw [hH0]; exact AX (OVal.self _ _ _)
 have hr0_0 := AH ho0_0
 simp +contextual -dsimp only [↓SD, SU, simprocAttr, AO, BH, hold0, hr0_0]
 refine Af.post (oh nm v0 x) ?_
 simp +contextual -dsimp only [↓SD, SU, simprocAttr, BH, hold0, false_and, hr0_0]
 refine ⟨by rw [Ac6]; exact (by repeat (first | exact ho0_0 | refine ED ?_ (by omega))), v0, ?_, rfl⟩
 rw [Ac3]

instance : OVal Con where
 ty := 92
 ov nm vs x := .agg [.str x.name, .bool x.has, ov (sub nm 0) vs x.arg.items]
 oh nm vs x := oh (sub nm 0) vs x.arg.items
 on nm x := on (sub nm 0) x.arg.items
 names nm vs x := OVal.names _ _ _
 inn nm x k h := (OVal.inn _ _ _ h).up
 self nm vs x := OVal.self _ _ _
 Gm nm vs vs' x h := by
  obtain ⟨a0, b0⟩ := OVal.Gm (sub nm 0) vs vs' x.arg.items (fun k hk => h k hk.up)
  simp only [a0, b0, and_self]
 Hk nm vs x hp h := by
  have h0 := OVal.Hk (sub nm 0) vs x.arg.items hp h
  show AV.agg [.str x.name, .bool x.has, (ov (sub nm 0) vs x.arg.items).pur (Cy (on (sub nm 0) x.arg.items) hp)] = av x
  rw [h0]; rfl
 dep nm vs x hp hp' h := by
  have h0 := OVal.dep (sub nm 0) vs x.arg.items hp hp' (fun k hk => h k hk.up)
  show AV.agg [.str x.name, .bool x.has, (ov (sub nm 0) vs x.arg.items).pur hp] = AV.agg [.str x.name, .bool x.has, (ov (sub nm 0) vs x.arg.items).pur hp']
  rw [h0]
 free nm vs x p h := by exact OVal.free _ _ _ p h
 JH nm vs x y hx := by
  simp only [AV.cells, List.mem_cons, List.not_mem_nil, or_false] at hx
  rcases hx with rfl | rfl | rfl <;> rfl
 ok _ _ _ := rfl
 agg _ _ _ := rfl
 len _ _ _ := rfl
theorem Ow (nm : Nat) (vs : Nat → Nat) (x : Con) : ov nm vs x = .agg [.str x.name, .bool x.has, .row (sub nm 0) (vs (sub nm 0)) x.arg.items.length] := eqq rfl
theorem Wo (nm : Nat) (vs : Nat → Nat) (x : Con) : oh nm vs x = oh (sub nm 0) vs x.arg.items := rfl

instance : Mk Con := ⟨fun k x => ⟨DQ (k), decide ((k + 1).tmod 3 = 0), ⟨mkL (k + 1 + 1) x.arg.items⟩⟩, fun x => 2 + BG x.arg.items⟩
theorem AdD (k : Int) (x : Con) : mkv k x = ⟨DQ (k), decide ((k + 1).tmod 3 = 0), ⟨mkL (k + 1 + 1) x.arg.items⟩⟩ := rfl
theorem AcR (x : Con) : cnt x = 2 + BG x.arg.items := rfl
instance : MkB Con := ⟨fun x => by
 have hbx : Ad.bulk x = Ad.bulk x.name + Ad.bulk x.has + Ad.bulk x.arg + 1 := rfl
 have hbx_0 : Ad.bulk x.name = x.name.size + 1 := rfl
 have hbx_1 : Ad.bulk x.has = 1 := rfl
 have hbx_2 : Ad.bulk x.arg = Ad.bulk x.arg.items + 1 := rfl
 have hbx_2_0 := BT x.arg.items
 rw [AcR]
 omega⟩

theorem Zg (nm : Nat) (x : Con) (hx : Ad.bulk x ≤ 1099511627776) : Ay Tryz.prog 120 [av x] [] (Fu nm x) := by
 have hb : Ad.bulk x.name + Ad.bulk x.has + Ad.bulk x.arg + 1 ≤ 1099511627776 := hx
 refine Jt.H rfl ?_
 simp +contextual -dsimp only [↓SD, SU, simprocAttr, Jt, De, Mw]
 (repeat' (first | intro _ | refine And.intro ?_ ?_))
 have C0 := Aaf nm x.arg (by omega)
 rw [Mw] at C0
 refine Bb [] C0 (by simp +contextual -dsimp only [↓SD, SU, simprocAttr]) ?_
 rintro r hp' ⟨v0, rfl, rfl⟩ H0 hH0
 rw [Ac6] at hH0
 rw [CK] at hH0
 have hold0 := GK hH0
 have ho0_0 : Bg H0 (oh (sub nm 0) v0 x.arg.items) := by rw [hH0]; exact AX (OVal.self _ _ _)
 have hr0_0 := AH ho0_0
 simp +contextual -dsimp only [↓SD, SU, simprocAttr, AO, Ac3, Mw, BH, hold0, hr0_0]
 refine Af.post (oh nm v0 x) ?_
 simp +contextual -dsimp only [↓SD, SU, simprocAttr, BH, hold0, false_and, hr0_0]
 refine ⟨by rw [Wo]; exact (by repeat (first | exact ho0_0 | refine ED ?_ (by omega))), v0, ?_, rfl⟩
 rw [Ow]

theorem V6 (nm : Nat) (l : List Con) (hx : Ad.bulk l ≤ 1099511627776) : Ay Tryz.prog 83 [.sl (l.map av)] [] (Fu nm l) := by
 have hl := Ao l
 refine Iz.H rfl ?_
 simp +contextual -dsimp only [↓SD, SU, simprocAttr, Iz, Aa]
 refine ⟨by omega, fun v => ?_⟩
 refine Al (X := Nat × (Nat → Nat)) (fun x => ⟨[(0, .sl (l.map av)), (3, .row 7 v l.length), (4, .int .i64 x.1)], (7, ⟨v, false, 92, 3, Ct nm x.2 l (AV.agg [.str (bs []), .bool false, .Ar]) x.1⟩) :: ohL nm x.2 0 (l.take x.1)⟩) (fun x => x.1 ≤ l.length) (fun x => l.length - x.1) (0, fun _ => 0) (Nat.zero_le _) (by simp +contextual -dsimp only [↓SD, SU, simprocAttr]) (by simp +contextual -dsimp only [↓SD, SU, simprocAttr, Hg, List.take_zero, LM]) ?_
 rintro ⟨k, vs⟩ hk
 dsimp only at hk ⊢
 by_cases hlt : k < l.length
 ·have e := getD_map av l k .top hlt
  have hbk : Ad.bulk l[k] ≤ 1099511627776 := by have := AW (List.getElem_mem hlt); omega
  have e1 := IK (nm := nm) (vs := vs) (AV.agg [.str (bs []), .bool false, .Ar]) hk
  have e2 := IL (nm := nm) (vs := vs) (AV.agg [.str (bs []), .bool false, .Ar]) hlt .top
  obtain ⟨H, hH⟩ : ∃ H, H = ((7, ⟨v, false, 92, 3, Ct nm vs l (AV.agg [.str (bs []), .bool false, .Ar]) k⟩) :: ohL nm vs 0 (l.take k) : Hp) := ⟨_, rfl⟩
  have h7 : Aw H 7 = some ⟨v, false, 92, 3, Ct nm vs l (AV.agg [.str (bs []), .bool false, .Ar]) k⟩ := by rw [hH]; exact Cj
  rw [← hH]
  simp +contextual -dsimp only [↓SD, SU, simprocAttr, Aa, hlt, e, De, h7]
  have C := Zg (sub nm k) l[k] hbk
  rw [De] at C
  refine Bb [] C (by simp +contextual -dsimp only [↓SD, SU, simprocAttr]) ?_
  rintro r hp' ⟨v1, rfl, rfl⟩ H1 hH1
  have h71 : Aw H1 7 = some ⟨v, false, 92, 3, Ct nm vs l (AV.agg [.str (bs []), .bool false, .Ar]) k⟩ := by
   rw [hH1, CK, Dh (Ii fun h' => by have := h'.ge; omega)]; exact h7
  have e3 := IJ (nm := nm) (vs := v1) (vs' := vs) (z := (AV.agg [.str (bs []), .bool false, .Ar])) hlt
  rw [Ow] at e3
  simp +contextual -dsimp only [↓SD, SU, simprocAttr, Aa, hlt, e, De, Ow, h71, e1, e2, e3]
  rw [hH] at hH1
  refine ⟨by omega, Af.le ⟨(k + 1, glue (sub nm k) v1 vs), ⟨hlt, (by first | omega | (simp only; omega))⟩, rfl⟩ (by simp +contextual -dsimp only [↓SD, SU, simprocAttr, Int.natCast_add]) ?_⟩
  exact Mp hlt (by omega) hH1
 ·obtain rfl : k = l.length := by omega
  rw [List.take_length]
  have ef : Ct nm vs l (AV.agg [.str (bs []), .bool false, .Ar]) l.length = ovL nm vs 0 l := by simp [Ct]
  rw [ef]
  obtain ⟨H, hH⟩ : ∃ H, H = ((7, ⟨v, false, 92, 3, ovL nm vs 0 l⟩) :: ohL nm vs 0 l : Hp) := ⟨_, rfl⟩
  rw [← hH]
  simp +contextual -dsimp only [↓SD, SU, simprocAttr, Aa, Nat.lt_irrefl]
  rw [hH]
  refine Af.ren 2 7 nm (v := v) (n := l.length) rfl Cj rfl fun v' => ?_
  obtain ⟨H', hH'⟩ : ∃ H', H' = ((nm, ⟨v', false, 92, 3, ovL nm vs 0 l⟩) :: BN [7] ((7, ⟨v, false, 92, 3, ovL nm vs 0 l⟩) :: ohL nm vs 0 l) : Hp) := ⟨_, rfl⟩
  have hr : Aw H' nm = some ⟨v', false, 92, 3, ovL nm vs 0 l⟩ := by rw [hH']; exact Cj
  have hle := Mf (α := Con) (nm := nm) (j := 7) (l := l) (vs := vs) (by omega) hH'
  dsimp only
  rw [← hH']
  refine Af.post (oh nm (glue nm (fun k => if k = nm then v' else vs k) vs) l) ?_
  simp +contextual -dsimp only [↓SD, SU, simprocAttr, hr]
  exact ⟨hle, _, (Kw l).1.symm, rfl⟩

set_option maxHeartbeats 1000000 in
theorem Sn (nm : Nat) (vs : Nat → Nat) (l : List Con) (k : Int) (h0 : 1 ≤ k) (h1 : k + (Ad.bulk l : Int) ≤ 4611686018427387904) : Ay Tryz.prog 62 [ov nm vs l, .int .i64 k] (oh nm vs l) (Fg nm vs k l) := by
 refine ID.H rfl ?_
 simp +contextual -dsimp only [↓SD, SU, simprocAttr, ID, AO]
 refine Al (X := Nat) (fun i => ⟨[(0, .row nm (vs nm) l.length), (1, .int .i64 (k + (BG (l.take i) : Int))), (5, .int .i64 i)], oh nm vs (BD k l i)⟩) (fun i => i ≤ l.length) (fun i => l.length - i) 0 (Nat.zero_le _) (by simp +contextual -dsimp only [↓SD, SU, simprocAttr, List.take_zero, FV, Int.natCast_zero, Int.add_zero]) (by rw [Fy]; exact OVal.self _ _ _) ?_
 rintro i hi
 by_cases hlt : i < l.length
 ·have hLi : i < (BD k l i).length := by rw [Dg hi]; exact hlt
  have hLl : (BD k l i).length = l.length := Dg hi
  have hgi := Gh hlt hLi
  have hsf := Gg (k := k) hlt
  have hroom := Ei hlt
  have htake := EP hlt
  have hle := HP l (i + 1)
  have e := Ht nm vs (BD k l i) hLi .top
  rw [hgi, Ow] at e
  have hel := Kx (nm := nm) (vs := vs) hLi
  rw [hgi, Wo] at hel
  have hr := DW nm vs (BD k l i)
  have hlen : (ovL nm vs 0 (BD k l i)).length = l.length := by rw [EI, hLl]
  obtain ⟨x, hx⟩ : ∃ x, x = l[i] := ⟨_, rfl⟩
  obtain ⟨K, hK⟩ : ∃ K, K = k + (BG (l.take i) : Int) := ⟨_, rfl⟩
  try rw [← hx] at e
  try rw [← hx] at hroom
  try rw [← hx] at htake
  try rw [← hx] at hel
  rw [← hx] at hsf
  rw [← hK] at hsf
  rw [FZ] at hr
  obtain ⟨E, hE⟩ : ∃ E, E = ovL nm vs 0 (BD k l i) := ⟨_, rfl⟩
  have hcount : cnt x = 2 + BG x.arg.items := rfl
  rw [hcount] at htake
  have hbx : Ad.bulk x = Ad.bulk x.name + Ad.bulk x.has + Ad.bulk x.arg + 1 := rfl
  have hbx_0 : Ad.bulk x.name = x.name.size + 1 := rfl
  have hbx_1 : Ad.bulk x.has = 1 := rfl
  have hbx_2 : Ad.bulk x.arg = Ad.bulk x.arg.items + 1 := rfl
  have hbx_2_0 := BT x.arg.items
  have hbl := Ao l
  have hKn : k + (BG (l.take (i + 1)) : Int) = K + 1 + 1 + (BG x.arg.items : Int) := by rw [htake]; omega
  have hKb : K + (Ad.bulk x : Int) ≤ 4611686018427387904 := by omega
  have hK1 : 1 ≤ K := by omega
  have htm0 : 0 ≤ (K + 1).tmod 3 ∧ (K + 1).tmod 3 ≤ 2 := by rw [Int.tmod_eq_emod_of_nonneg (by omega)]; omega
  have hmk : ov (sub nm i) vs (mkv K x) = AV.agg [.str (DQ (K)), .bool (decide ((K + 1).tmod 3 = 0)), .row (sub (sub nm i) 0) (vs (sub (sub nm i) 0)) x.arg.items.length] := by rw [AdD, Ow]; simp only [DH]
  have hus : ovL nm vs 0 ((BD k l i).set i (mkv K x)) = E.set i (AV.agg [.str (DQ (K)), .bool (decide ((K + 1).tmod 3 = 0)), .row (sub (sub nm i) 0) (vs (sub (sub nm i) 0)) x.arg.items.length]) := by rw [Hs, hmk, ← hE]
  rw [← hE] at e hlen hr
  rw [← hK]
  have gs : ∀ a, (E.set i a).getD i .top = a := fun a => by rw [List.getD_eq_getElem?_getD, List.getElem?_set_self (by rw [hlen]; exact hlt)]; rfl
  have ls : ∀ a, (E.set i a).length = l.length := fun a => by rw [List.length_set, hlen]
  obtain ⟨H, hH⟩ : ∃ H, H = oh nm vs (BD k l i) := ⟨_, rfl⟩
  rw [← hH] at hr hel
  have hq : ∀ q, ¬ InT (sub nm i) q → q ≠ nm → Aw H q = Aw (oh nm vs (BD k l i)) q := fun q _ _ => by rw [hH]
  rw [show (AVal.n Con) = 3 from rfl] at hr
  rw [← hH]
  clear hH
  have hl0 := hel
  have hk0 := AH hl0
  have hn0 : ¬ InT (sub (sub nm i) 0) nm := IX
  have hb0 : (nm == sub (sub nm i) 0) = false := Ih
  simp +contextual -dsimp only [↓SD, SU, simprocAttr, hlt, hlen, e, gs, ls, List.set_set, AO, false_and, hr, hk0, hb0]
  repeat (refine And.intro (by omega) ?_)
  refine Ab _ (Ex (K) (by omega) (by omega)) ?_
  simp +contextual -dsimp only [↓SD, SU, simprocAttr, hlt, hlen, e, gs, ls, List.set_set, AO, false_and, hr, hk0, hb0]
  repeat (refine And.intro (by omega) ?_)
  refine Bb (on (sub (sub nm i) 0) x.arg.items) (NG (sub (sub nm i) 0) vs x.arg.items _ (by omega) (by omega)) (Fm (by repeat (first | exact hl0 | refine Ai hn0 ?_))) ?_
  rintro r hp' ⟨rfl, rfl⟩ H0 hH0
  have hr0 := GY hH0 hn0 Cj
  have hq0 := Ig (X := fun q => Aw (oh nm vs (BD k l i)) q) hH0 (by repeat (first | exact hq | refine DN ?_))
  have hd0 := DG hH0
  rw [Ff]
  simp +contextual -dsimp only [↓SD, SU, simprocAttr, hlt, hlen, e, gs, ls, List.set_set, AO, false_and, hr0, hb0]
  repeat (refine And.intro (by omega) ?_)
  refine Af.le ⟨i + 1, ⟨hlt, (by first | omega | (simp only; omega))⟩, rfl⟩ (by simp +contextual -dsimp only [↓SD, SU, simprocAttr, Int.natCast_add, hKn]) ?_
  rw [← hsf]
  refine JY hLi ?_ ?_ ?_
  ·repeat (first | exact hq0 | refine DN ?_)
  ·rw [FZ, hus]; first | exact Cj | exact hr0
  ·rw [Wo]; exact (by repeat (first | exact hd0 | refine Ai hn0 ?_))
 ·obtain rfl : i = l.length := by omega
  rw [Fz, ER]
  have hr := DW nm vs (mkL k l)
  have hs := OVal.self nm vs (mkL k l)
  obtain ⟨H, hH⟩ : ∃ H, H = oh nm vs (mkL k l) := ⟨_, rfl⟩
  rw [← hH]
  simp +contextual -dsimp only [↓SD, SU, simprocAttr, Nat.lt_irrefl, Aa]
  refine Af.post H ?_
  simp +contextual -dsimp only [↓SD, SU, simprocAttr]
  exact ⟨by rw [hH]; exact hs, rfl, by rw [hH]; rfl⟩

instance : OVal BP where
 ty := 86
 ov nm vs x := .agg [.str x.name, .int .i64 x.params, ov (sub nm 0) vs x.cons]
 oh nm vs x := oh (sub nm 0) vs x.cons
 on nm x := on (sub nm 0) x.cons
 names nm vs x := OVal.names _ _ _
 inn nm x k h := (OVal.inn _ _ _ h).up
 self nm vs x := OVal.self _ _ _
 Gm nm vs vs' x h := by
  obtain ⟨a0, b0⟩ := OVal.Gm (sub nm 0) vs vs' x.cons (fun k hk => h k hk.up)
  simp only [a0, b0, and_self]
 Hk nm vs x hp h := by
  have h0 := OVal.Hk (sub nm 0) vs x.cons hp h
  show AV.agg [.str x.name, .int .i64 x.params, (ov (sub nm 0) vs x.cons).pur (Cy (on (sub nm 0) x.cons) hp)] = av x
  rw [h0]; rfl
 dep nm vs x hp hp' h := by
  have h0 := OVal.dep (sub nm 0) vs x.cons hp hp' (fun k hk => h k hk.up)
  show AV.agg [.str x.name, .int .i64 x.params, (ov (sub nm 0) vs x.cons).pur hp] = AV.agg [.str x.name, .int .i64 x.params, (ov (sub nm 0) vs x.cons).pur hp']
  rw [h0]
 free nm vs x p h := by exact OVal.free _ _ _ p h
 JH nm vs x y hx := by
  simp only [AV.cells, List.mem_cons, List.not_mem_nil, or_false] at hx
  rcases hx with rfl | rfl | rfl <;> rfl
 ok _ _ _ := rfl
 agg _ _ _ := rfl
 len _ _ _ := rfl
theorem JT (nm : Nat) (vs : Nat → Nat) (x : BP) : ov nm vs x = .agg [.str x.name, .int .i64 x.params, .row (sub nm 0) (vs (sub nm 0)) x.cons.length] := eqq rfl
theorem OG (nm : Nat) (vs : Nat → Nat) (x : BP) : oh nm vs x = oh (sub nm 0) vs x.cons := rfl

instance : Mk BP := ⟨fun k x => ⟨DQ (k), k + 1, mkL (k + 1 + 1) x.cons⟩, fun x => 2 + BG x.cons⟩
theorem Aa3 (k : Int) (x : BP) : mkv k x = ⟨DQ (k), k + 1, mkL (k + 1 + 1) x.cons⟩ := rfl
theorem ZR (x : BP) : cnt x = 2 + BG x.cons := rfl
instance : MkB BP := ⟨fun x => by
 have hbx : Ad.bulk x = Ad.bulk x.name + Ad.bulk x.params + Ad.bulk x.cons + 1 := rfl
 have hbx_0 : Ad.bulk x.name = x.name.size + 1 := rfl
 have hbx_1 : Ad.bulk x.params = 1 := rfl
 have hbx_2 := BT x.cons
 rw [ZR]
 omega⟩

theorem V0 (nm : Nat) (x : BP) (hx : Ad.bulk x ≤ 1099511627776) : Ay Tryz.prog 47 [av x] [] (Fu nm x) := by
 have hb : Ad.bulk x.name + Ad.bulk x.params + Ad.bulk x.cons + 1 ≤ 1099511627776 := hx
 refine It.H rfl ?_
 simp +contextual -dsimp only [↓SD, SU, simprocAttr, It, BZ]
 (repeat' (first | intro _ | refine And.intro ?_ ?_))
 refine Bb [] (V6 (sub nm 0) x.cons (by omega)) (by simp +contextual -dsimp only [↓SD, SU, simprocAttr]) ?_
 rintro r hp' ⟨v0, rfl, rfl⟩ H0 hH0
 rw [CK] at hH0
 have hold0 := GK hH0
 have ho0_0 : Bg H0 (oh (sub nm 0) v0 x.cons) := by rw [hH0]; exact AX (OVal.self _ _ _)
 have hr0_0 := AH ho0_0
 simp +contextual -dsimp only [↓SD, SU, simprocAttr, AO, BH, hold0, hr0_0]
 refine Af.post (oh nm v0 x) ?_
 simp +contextual -dsimp only [↓SD, SU, simprocAttr, BH, hold0, false_and, hr0_0]
 refine ⟨by rw [OG]; exact (by repeat (first | exact ho0_0 | refine ED ?_ (by omega))), v0, ?_, rfl⟩
 rw [JT]

theorem S4 (nm : Nat) (l : List BP) (hx : Ad.bulk l ≤ 1099511627776) : Ay Tryz.prog 21 [.sl (l.map av)] [] (Fu nm l) := by
 have hl := Ao l
 refine Hw.H rfl ?_
 simp +contextual -dsimp only [↓SD, SU, simprocAttr, Hw, Aa]
 refine ⟨by omega, fun v => ?_⟩
 refine Al (X := Nat × (Nat → Nat)) (fun x => ⟨[(0, .sl (l.map av)), (3, .row 7 v l.length), (4, .int .i64 x.1)], (7, ⟨v, false, 86, 3, Ct nm x.2 l (AV.agg [.str (bs []), .int .i64 0, .Ar]) x.1⟩) :: ohL nm x.2 0 (l.take x.1)⟩) (fun x => x.1 ≤ l.length) (fun x => l.length - x.1) (0, fun _ => 0) (Nat.zero_le _) (by simp +contextual -dsimp only [↓SD, SU, simprocAttr]) (by simp +contextual -dsimp only [↓SD, SU, simprocAttr, Hg, List.take_zero, LM]) ?_
 rintro ⟨k, vs⟩ hk
 dsimp only at hk ⊢
 by_cases hlt : k < l.length
 ·have e := getD_map av l k .top hlt
  have hbk : Ad.bulk l[k] ≤ 1099511627776 := by have := AW (List.getElem_mem hlt); omega
  have e1 := IK (nm := nm) (vs := vs) (AV.agg [.str (bs []), .int .i64 0, .Ar]) hk
  have e2 := IL (nm := nm) (vs := vs) (AV.agg [.str (bs []), .int .i64 0, .Ar]) hlt .top
  obtain ⟨H, hH⟩ : ∃ H, H = ((7, ⟨v, false, 86, 3, Ct nm vs l (AV.agg [.str (bs []), .int .i64 0, .Ar]) k⟩) :: ohL nm vs 0 (l.take k) : Hp) := ⟨_, rfl⟩
  have h7 : Aw H 7 = some ⟨v, false, 86, 3, Ct nm vs l (AV.agg [.str (bs []), .int .i64 0, .Ar]) k⟩ := by rw [hH]; exact Cj
  rw [← hH]
  simp +contextual -dsimp only [↓SD, SU, simprocAttr, Aa, hlt, e, BZ, h7]
  have C := V0 (sub nm k) l[k] hbk
  rw [BZ] at C
  refine Bb [] C (by simp +contextual -dsimp only [↓SD, SU, simprocAttr]) ?_
  rintro r hp' ⟨v1, rfl, rfl⟩ H1 hH1
  have h71 : Aw H1 7 = some ⟨v, false, 86, 3, Ct nm vs l (AV.agg [.str (bs []), .int .i64 0, .Ar]) k⟩ := by
   rw [hH1, CK, Dh (Ii fun h' => by have := h'.ge; omega)]; exact h7
  have e3 := IJ (nm := nm) (vs := v1) (vs' := vs) (z := (AV.agg [.str (bs []), .int .i64 0, .Ar])) hlt
  rw [JT] at e3
  simp +contextual -dsimp only [↓SD, SU, simprocAttr, Aa, hlt, e, BZ, JT, h71, e1, e2, e3]
  rw [hH] at hH1
  refine ⟨by omega, Af.le ⟨(k + 1, glue (sub nm k) v1 vs), ⟨hlt, (by first | omega | (simp only; omega))⟩, rfl⟩ (by simp +contextual -dsimp only [↓SD, SU, simprocAttr, Int.natCast_add]) ?_⟩
  exact Mp hlt (by omega) hH1
 ·obtain rfl : k = l.length := by omega
  rw [List.take_length]
  have ef : Ct nm vs l (AV.agg [.str (bs []), .int .i64 0, .Ar]) l.length = ovL nm vs 0 l := by simp [Ct]
  rw [ef]
  obtain ⟨H, hH⟩ : ∃ H, H = ((7, ⟨v, false, 86, 3, ovL nm vs 0 l⟩) :: ohL nm vs 0 l : Hp) := ⟨_, rfl⟩
  rw [← hH]
  simp +contextual -dsimp only [↓SD, SU, simprocAttr, Aa, Nat.lt_irrefl]
  rw [hH]
  refine Af.ren 2 7 nm (v := v) (n := l.length) rfl Cj rfl fun v' => ?_
  obtain ⟨H', hH'⟩ : ∃ H', H' = ((nm, ⟨v', false, 86, 3, ovL nm vs 0 l⟩) :: BN [7] ((7, ⟨v, false, 86, 3, ovL nm vs 0 l⟩) :: ohL nm vs 0 l) : Hp) := ⟨_, rfl⟩
  have hr : Aw H' nm = some ⟨v', false, 86, 3, ovL nm vs 0 l⟩ := by rw [hH']; exact Cj
  have hle := Mf (α := BP) (nm := nm) (j := 7) (l := l) (vs := vs) (by omega) hH'
  dsimp only
  rw [← hH']
  refine Af.post (oh nm (glue nm (fun k => if k = nm then v' else vs k) vs) l) ?_
  simp +contextual -dsimp only [↓SD, SU, simprocAttr, hr]
  exact ⟨hle, _, (Kw l).1.symm, rfl⟩

set_option maxHeartbeats 1000000 in
theorem P1 (nm : Nat) (vs : Nat → Nat) (l : List BP) (k : Int) (h0 : 1 ≤ k) (h1 : k + (Ad.bulk l : Int) ≤ 4611686018427387904) : Ay Tryz.prog 30 [ov nm vs l, .int .i64 k] (oh nm vs l) (Fg nm vs k l) := by
 refine HB.H rfl ?_
 simp +contextual -dsimp only [↓SD, SU, simprocAttr, HB, AO]
 refine Al (X := Nat) (fun i => ⟨[(0, .row nm (vs nm) l.length), (1, .int .i64 (k + (BG (l.take i) : Int))), (5, .int .i64 i)], oh nm vs (BD k l i)⟩) (fun i => i ≤ l.length) (fun i => l.length - i) 0 (Nat.zero_le _) (by simp +contextual -dsimp only [↓SD, SU, simprocAttr, List.take_zero, FV, Int.natCast_zero, Int.add_zero]) (by rw [Fy]; exact OVal.self _ _ _) ?_
 rintro i hi
 by_cases hlt : i < l.length
 ·have hLi : i < (BD k l i).length := by rw [Dg hi]; exact hlt
  have hLl : (BD k l i).length = l.length := Dg hi
  have hgi := Gh hlt hLi
  have hsf := Gg (k := k) hlt
  have hroom := Ei hlt
  have htake := EP hlt
  have hle := HP l (i + 1)
  have e := Ht nm vs (BD k l i) hLi .top
  rw [hgi, JT] at e
  have hel := Kx (nm := nm) (vs := vs) hLi
  rw [hgi, OG] at hel
  have hr := DW nm vs (BD k l i)
  have hlen : (ovL nm vs 0 (BD k l i)).length = l.length := by rw [EI, hLl]
  obtain ⟨x, hx⟩ : ∃ x, x = l[i] := ⟨_, rfl⟩
  obtain ⟨K, hK⟩ : ∃ K, K = k + (BG (l.take i) : Int) := ⟨_, rfl⟩
  try rw [← hx] at e
  try rw [← hx] at hroom
  try rw [← hx] at htake
  try rw [← hx] at hel
  rw [← hx] at hsf
  rw [← hK] at hsf
  rw [FZ] at hr
  obtain ⟨E, hE⟩ : ∃ E, E = ovL nm vs 0 (BD k l i) := ⟨_, rfl⟩
  have hcount : cnt x = 2 + BG x.cons := rfl
  rw [hcount] at htake
  have hbx : Ad.bulk x = Ad.bulk x.name + Ad.bulk x.params + Ad.bulk x.cons + 1 := rfl
  have hbx_0 : Ad.bulk x.name = x.name.size + 1 := rfl
  have hbx_1 : Ad.bulk x.params = 1 := rfl
  have hbx_2 := BT x.cons
  have hbl := Ao l
  have hKn : k + (BG (l.take (i + 1)) : Int) = K + 1 + 1 + (BG x.cons : Int) := by rw [htake]; omega
  have hKb : K + (Ad.bulk x : Int) ≤ 4611686018427387904 := by omega
  have hK1 : 1 ≤ K := by omega
  have hmk : ov (sub nm i) vs (mkv K x) = AV.agg [.str (DQ (K)), .int .i64 (K + 1), .row (sub (sub nm i) 0) (vs (sub (sub nm i) 0)) x.cons.length] := by rw [Aa3, JT]; simp only [DH]
  have hus : ovL nm vs 0 ((BD k l i).set i (mkv K x)) = E.set i (AV.agg [.str (DQ (K)), .int .i64 (K + 1), .row (sub (sub nm i) 0) (vs (sub (sub nm i) 0)) x.cons.length]) := by rw [Hs, hmk, ← hE]
  rw [← hE] at e hlen hr
  rw [← hK]
  have gs : ∀ a, (E.set i a).getD i .top = a := fun a => by rw [List.getD_eq_getElem?_getD, List.getElem?_set_self (by rw [hlen]; exact hlt)]; rfl
  have ls : ∀ a, (E.set i a).length = l.length := fun a => by rw [List.length_set, hlen]
  obtain ⟨H, hH⟩ : ∃ H, H = oh nm vs (BD k l i) := ⟨_, rfl⟩
  rw [← hH] at hr hel
  have hq : ∀ q, ¬ InT (sub nm i) q → q ≠ nm → Aw H q = Aw (oh nm vs (BD k l i)) q := fun q _ _ => by rw [hH]
  rw [show (AVal.n BP) = 3 from rfl] at hr
  rw [← hH]
  clear hH
  have hl0 := hel
  have hk0 := AH hl0
  have hn0 : ¬ InT (sub (sub nm i) 0) nm := IX
  have hb0 : (nm == sub (sub nm i) 0) = false := Ih
  simp +contextual -dsimp only [↓SD, SU, simprocAttr, hlt, hlen, e, gs, ls, List.set_set, AO, false_and, hr, hk0, hb0]
  repeat (refine And.intro (by omega) ?_)
  refine Ab _ (Ex (K) (by omega) (by omega)) ?_
  simp +contextual -dsimp only [↓SD, SU, simprocAttr, hlt, hlen, e, gs, ls, List.set_set, AO, false_and, hr, hk0, hb0]
  repeat (refine And.intro (by omega) ?_)
  refine Bb (on (sub (sub nm i) 0) x.cons) (Sn (sub (sub nm i) 0) vs x.cons _ (by omega) (by omega)) (Fm (by repeat (first | exact hl0 | refine Ai hn0 ?_))) ?_
  rintro r hp' ⟨rfl, rfl⟩ H0 hH0
  have hr0 := GY hH0 hn0 Cj
  have hq0 := Ig (X := fun q => Aw (oh nm vs (BD k l i)) q) hH0 (by repeat (first | exact hq | refine DN ?_))
  have hd0 := DG hH0
  rw [Ff]
  simp +contextual -dsimp only [↓SD, SU, simprocAttr, hlt, hlen, e, gs, ls, List.set_set, AO, false_and, hr0, hb0]
  repeat (refine And.intro (by omega) ?_)
  refine Af.le ⟨i + 1, ⟨hlt, (by first | omega | (simp only; omega))⟩, rfl⟩ (by simp +contextual -dsimp only [↓SD, SU, simprocAttr, Int.natCast_add, hKn]) ?_
  rw [← hsf]
  refine JY hLi ?_ ?_ ?_
  ·repeat (first | exact hq0 | refine DN ?_)
  ·rw [FZ, hus]; first | exact Cj | exact hr0
  ·rw [OG]; exact (by repeat (first | exact hd0 | refine Ai hn0 ?_))
 ·obtain rfl : i = l.length := by omega
  rw [Fz, ER]
  have hr := DW nm vs (mkL k l)
  have hs := OVal.self nm vs (mkL k l)
  obtain ⟨H, hH⟩ : ∃ H, H = oh nm vs (mkL k l) := ⟨_, rfl⟩
  rw [← hH]
  simp +contextual -dsimp only [↓SD, SU, simprocAttr, Nat.lt_irrefl, Aa]
  refine Af.post H ?_
  simp +contextual -dsimp only [↓SD, SU, simprocAttr]
  exact ⟨by rw [hH]; exact hs, rfl, by rw [hH]; rfl⟩

instance : OVal Node where
 ty := 96
 ov nm vs x := .agg [.int .i64 x.kind, .int .i64 x.pos, .int .i64 x.n, .str x.s, ov (sub nm 0) vs x.kids, ov (sub nm 1) vs x.As]
 oh nm vs x := oh (sub nm 0) vs x.kids ++ oh (sub nm 1) vs x.As
 on nm x := on (sub nm 0) x.kids ++ on (sub nm 1) x.As
 names nm vs x := by simp only [List.map_append, OVal.names]
 inn nm x k h := by rcases List.mem_append.1 h with h | h <;> exact (OVal.inn _ _ _ h).up
 self nm vs x := AcY (OVal.self _ _ _) (OVal.self _ _ _) fun p hp q hq e => by
  have h1 := OVal.inh hp
  have h2 := OVal.inh hq
  rw [e] at h2
  have := h1.sib h2
  omega
 Gm nm vs vs' x h := by
  obtain ⟨a0, b0⟩ := OVal.Gm (sub nm 0) vs vs' x.kids (fun k hk => h k hk.up)
  obtain ⟨a1, b1⟩ := OVal.Gm (sub nm 1) vs vs' x.As (fun k hk => h k hk.up)
  simp only [a0, b0, a1, b1, and_self]
 Hk nm vs x hp h := by
  rw [BI] at h
  have h0 := OVal.Hk (sub nm 0) vs x.kids hp h.1
  have h1 := OVal.Hk (sub nm 1) vs x.As (Cy (on (sub nm 0) x.kids) hp) (O4 (fun p hp => JX (C7 (by omega) (OVal.inh hp))) h.2)
  rw [← FT] at h1
  have d0 : (ov (sub nm 0) vs x.kids).pur (Cy (on (sub nm 0) x.kids ++ on (sub nm 1) x.As) hp) = (ov (sub nm 0) vs x.kids).pur (Cy (on (sub nm 0) x.kids) hp) := OVal.dep _ _ _ _ _ fun k hk => by
   rw [FT, Dn (JX (C7 (by omega) hk))]
  rw [← d0] at h0
  show AV.agg [.int .i64 x.kind, .int .i64 x.pos, .int .i64 x.n, .str x.s, (ov (sub nm 0) vs x.kids).pur (Cy (on (sub nm 0) x.kids ++ on (sub nm 1) x.As) hp), (ov (sub nm 1) vs x.As).pur (Cy (on (sub nm 0) x.kids ++ on (sub nm 1) x.As) hp)] = av x
  rw [h0, h1]; rfl
 dep nm vs x hp hp' h := by
  have h0 := OVal.dep (sub nm 0) vs x.kids hp hp' (fun k hk => h k hk.up)
  have h1 := OVal.dep (sub nm 1) vs x.As hp hp' (fun k hk => h k hk.up)
  show AV.agg [.int .i64 x.kind, .int .i64 x.pos, .int .i64 x.n, .str x.s, (ov (sub nm 0) vs x.kids).pur hp, (ov (sub nm 1) vs x.As).pur hp] = AV.agg [.int .i64 x.kind, .int .i64 x.pos, .int .i64 x.n, .str x.s, (ov (sub nm 0) vs x.kids).pur hp', (ov (sub nm 1) vs x.As).pur hp']
  rw [h0, h1]
 free nm vs x p h := by rcases List.mem_append.1 h with h | h <;> exact OVal.free _ _ _ p h
 JH nm vs x y hx := by
  simp only [AV.cells, List.mem_cons, List.not_mem_nil, or_false] at hx
  rcases hx with rfl | rfl | rfl | rfl | rfl | rfl <;> rfl
 ok _ _ _ := rfl
 agg _ _ _ := rfl
 len _ _ _ := rfl
theorem LA (nm : Nat) (vs : Nat → Nat) (x : Node) : ov nm vs x = .agg [.int .i64 x.kind, .int .i64 x.pos, .int .i64 x.n, .str x.s, .row (sub nm 0) (vs (sub nm 0)) x.kids.length, .row (sub nm 1) (vs (sub nm 1)) x.As.length] := eqq rfl
theorem Si (nm : Nat) (vs : Nat → Nat) (x : Node) : oh nm vs x = oh (sub nm 0) vs x.kids ++ oh (sub nm 1) vs x.As := rfl

instance : Mk Node := ⟨fun k x => ⟨k, k + 1, k + 1 + 1, DQ (k + 1 + 1 + 1), mkL (k + 1 + 1 + 1 + 1) x.kids, mkL (k + 1 + 1 + 1 + 1 + (BG x.kids : Int)) x.As⟩, fun x => 4 + BG x.kids + BG x.As⟩
theorem Acy (k : Int) (x : Node) : mkv k x = ⟨k, k + 1, k + 1 + 1, DQ (k + 1 + 1 + 1), mkL (k + 1 + 1 + 1 + 1) x.kids, mkL (k + 1 + 1 + 1 + 1 + (BG x.kids : Int)) x.As⟩ := rfl
theorem Aby (x : Node) : cnt x = 4 + BG x.kids + BG x.As := rfl
instance : MkB Node := ⟨fun x => by
 have hbx : Ad.bulk x = Ad.bulk x.kind + Ad.bulk x.pos + Ad.bulk x.n + Ad.bulk x.s + Ad.bulk x.kids + Ad.bulk x.As + 1 := rfl
 have hbx_0 : Ad.bulk x.kind = 1 := rfl
 have hbx_1 : Ad.bulk x.pos = 1 := rfl
 have hbx_2 : Ad.bulk x.n = 1 := rfl
 have hbx_3 : Ad.bulk x.s = x.s.size + 1 := rfl
 have hbx_4 := BT x.kids
 have hbx_5 := BT x.As
 rw [Aby]
 omega⟩

theorem V4 (nm : Nat) (x : Node) (hx : Ad.bulk x ≤ 1099511627776) : Ay Tryz.prog 48 [av x] [] (Fu nm x) := by
 have hb : Ad.bulk x.kind + Ad.bulk x.pos + Ad.bulk x.n + Ad.bulk x.s + Ad.bulk x.kids + Ad.bulk x.As + 1 ≤ 1099511627776 := hx
 refine Ix.H rfl ?_
 simp +contextual -dsimp only [↓SD, SU, simprocAttr, Ix, AL]
 (repeat' (first | intro _ | refine And.intro ?_ ?_))
 refine Bb [] (KX (sub nm 0) x.kids (by omega)) (by simp +contextual -dsimp only [↓SD, SU, simprocAttr]) ?_
 rintro r hp' ⟨v0, rfl, rfl⟩ H0 hH0
 rw [CK] at hH0
 have hold0 := GK hH0
 have ho0_0 : Bg H0 (oh (sub nm 0) v0 x.kids) := by rw [hH0]; exact AX (OVal.self _ _ _)
 have hr0_0 := AH ho0_0
 simp +contextual -dsimp only [↓SD, SU, simprocAttr, AO, BH, hold0, hr0_0]
 refine Bb [] (V2 (sub nm 1) x.As (by omega)) (by simp +contextual -dsimp only [↓SD, SU, simprocAttr]) ?_
 rintro r hp' ⟨v1, rfl, rfl⟩ H1 hH1
 rw [CK] at hH1
 have hold1 := GK hH1
 have ho1_1 : Bg H1 (oh (sub nm 1) v1 x.As) := by rw [hH1]; exact AX (OVal.self _ _ _)
 have hr1_1 := AH ho1_1
 have ho1_0 : Bg H1 (oh (sub nm 0) v0 x.kids) := A3.2 fun p hp => by rw [hH1, Dh (Ii (C7 (by omega) (OVal.inh hp)))]; exact A3.1 (by repeat (first | exact ho0_0 | refine ED ?_ (by omega))) p hp
 have hr1_0 := AH ho1_0
 simp +contextual -dsimp only [↓SD, SU, simprocAttr, AO, BH, hold0, hold1, hr1_0, hr1_1]
 have hne : ∀ k, InT (sub nm 1) k → ¬ InT (sub nm 0) k := fun k h => C7 (by omega) h
 have he : oh nm (glue (sub nm 0) v0 v1) x = oh (sub nm 0) v0 x.kids ++ oh (sub nm 1) v1 x.As := by rw [Si, Sh, OE v0 v1 _ hne]
 refine Af.post (oh nm (glue (sub nm 0) v0 v1) x) ?_
 simp +contextual -dsimp only [↓SD, SU, simprocAttr, BH, hold1, hold0, false_and, hr1_0, hr1_1]
 refine ⟨?_, _, ?_, rfl⟩
 ·rw [he, BI]
  exact ⟨(by repeat (first | exact ho1_0 | refine ED ?_ (by omega))), (by repeat (first | exact ho1_1 | refine ED ?_ (by omega)))⟩
 ·rw [LA, KA .root, Md (hne _ .root)]

theorem S7 (nm : Nat) (l : List Node) (hx : Ad.bulk l ≤ 1099511627776) : Ay Tryz.prog 22 [.sl (l.map av)] [] (Fu nm l) := by
 have hl := Ao l
 refine HA.H rfl ?_
 simp +contextual -dsimp only [↓SD, SU, simprocAttr, HA, Aa]
 refine ⟨by omega, fun v => ?_⟩
 refine Al (X := Nat × (Nat → Nat)) (fun x => ⟨[(0, .sl (l.map av)), (3, .row 7 v l.length), (4, .int .i64 x.1)], (7, ⟨v, false, 96, 6, Ct nm x.2 l (AV.agg [.int .i64 0, .int .i64 0, .int .i64 0, .str (bs []), .Ar, .Ar]) x.1⟩) :: ohL nm x.2 0 (l.take x.1)⟩) (fun x => x.1 ≤ l.length) (fun x => l.length - x.1) (0, fun _ => 0) (Nat.zero_le _) (by simp +contextual -dsimp only [↓SD, SU, simprocAttr]) (by simp +contextual -dsimp only [↓SD, SU, simprocAttr, Hg, List.take_zero, LM]) ?_
 rintro ⟨k, vs⟩ hk
 dsimp only at hk ⊢
 by_cases hlt : k < l.length
 ·have e := getD_map av l k .top hlt
  have hbk : Ad.bulk l[k] ≤ 1099511627776 := by have := AW (List.getElem_mem hlt); omega
  have e1 := IK (nm := nm) (vs := vs) (AV.agg [.int .i64 0, .int .i64 0, .int .i64 0, .str (bs []), .Ar, .Ar]) hk
  have e2 := IL (nm := nm) (vs := vs) (AV.agg [.int .i64 0, .int .i64 0, .int .i64 0, .str (bs []), .Ar, .Ar]) hlt .top
  obtain ⟨H, hH⟩ : ∃ H, H = ((7, ⟨v, false, 96, 6, Ct nm vs l (AV.agg [.int .i64 0, .int .i64 0, .int .i64 0, .str (bs []), .Ar, .Ar]) k⟩) :: ohL nm vs 0 (l.take k) : Hp) := ⟨_, rfl⟩
  have h7 : Aw H 7 = some ⟨v, false, 96, 6, Ct nm vs l (AV.agg [.int .i64 0, .int .i64 0, .int .i64 0, .str (bs []), .Ar, .Ar]) k⟩ := by rw [hH]; exact Cj
  rw [← hH]
  simp +contextual -dsimp only [↓SD, SU, simprocAttr, Aa, hlt, e, AL, h7]
  have C := V4 (sub nm k) l[k] hbk
  rw [AL] at C
  refine Bb [] C (by simp +contextual -dsimp only [↓SD, SU, simprocAttr]) ?_
  rintro r hp' ⟨v1, rfl, rfl⟩ H1 hH1
  have h71 : Aw H1 7 = some ⟨v, false, 96, 6, Ct nm vs l (AV.agg [.int .i64 0, .int .i64 0, .int .i64 0, .str (bs []), .Ar, .Ar]) k⟩ := by
   rw [hH1, CK, Dh (Ii fun h' => by have := h'.ge; omega)]; exact h7
  have e3 := IJ (nm := nm) (vs := v1) (vs' := vs) (z := (AV.agg [.int .i64 0, .int .i64 0, .int .i64 0, .str (bs []), .Ar, .Ar])) hlt
  rw [LA] at e3
  simp +contextual -dsimp only [↓SD, SU, simprocAttr, Aa, hlt, e, AL, LA, h71, e1, e2, e3]
  rw [hH] at hH1
  refine ⟨by omega, Af.le ⟨(k + 1, glue (sub nm k) v1 vs), ⟨hlt, (by first | omega | (simp only; omega))⟩, rfl⟩ (by simp +contextual -dsimp only [↓SD, SU, simprocAttr, Int.natCast_add]) ?_⟩
  exact Mp hlt (by omega) hH1
 ·obtain rfl : k = l.length := by omega
  rw [List.take_length]
  have ef : Ct nm vs l (AV.agg [.int .i64 0, .int .i64 0, .int .i64 0, .str (bs []), .Ar, .Ar]) l.length = ovL nm vs 0 l := by simp [Ct]
  rw [ef]
  obtain ⟨H, hH⟩ : ∃ H, H = ((7, ⟨v, false, 96, 6, ovL nm vs 0 l⟩) :: ohL nm vs 0 l : Hp) := ⟨_, rfl⟩
  rw [← hH]
  simp +contextual -dsimp only [↓SD, SU, simprocAttr, Aa, Nat.lt_irrefl]
  rw [hH]
  refine Af.ren 2 7 nm (v := v) (n := l.length) rfl Cj rfl fun v' => ?_
  obtain ⟨H', hH'⟩ : ∃ H', H' = ((nm, ⟨v', false, 96, 6, ovL nm vs 0 l⟩) :: BN [7] ((7, ⟨v, false, 96, 6, ovL nm vs 0 l⟩) :: ohL nm vs 0 l) : Hp) := ⟨_, rfl⟩
  have hr : Aw H' nm = some ⟨v', false, 96, 6, ovL nm vs 0 l⟩ := by rw [hH']; exact Cj
  have hle := Mf (α := Node) (nm := nm) (j := 7) (l := l) (vs := vs) (by omega) hH'
  dsimp only
  rw [← hH']
  refine Af.post (oh nm (glue nm (fun k => if k = nm then v' else vs k) vs) l) ?_
  simp +contextual -dsimp only [↓SD, SU, simprocAttr, hr]
  exact ⟨hle, _, (Kw l).1.symm, rfl⟩

set_option maxHeartbeats 1000000 in
theorem P2 (nm : Nat) (vs : Nat → Nat) (l : List Node) (k : Int) (h0 : 1 ≤ k) (h1 : k + (Ad.bulk l : Int) ≤ 4611686018427387904) : Ay Tryz.prog 31 [ov nm vs l, .int .i64 k] (oh nm vs l) (Fg nm vs k l) := by
 refine HC.H rfl ?_
 simp +contextual -dsimp only [↓SD, SU, simprocAttr, HC, AO]
 refine Al (X := Nat) (fun i => ⟨[(0, .row nm (vs nm) l.length), (1, .int .i64 (k + (BG (l.take i) : Int))), (5, .int .i64 i)], oh nm vs (BD k l i)⟩) (fun i => i ≤ l.length) (fun i => l.length - i) 0 (Nat.zero_le _) (by simp +contextual -dsimp only [↓SD, SU, simprocAttr, List.take_zero, FV, Int.natCast_zero, Int.add_zero]) (by rw [Fy]; exact OVal.self _ _ _) ?_
 rintro i hi
 by_cases hlt : i < l.length
 ·have hLi : i < (BD k l i).length := by rw [Dg hi]; exact hlt
  have hLl : (BD k l i).length = l.length := Dg hi
  have hgi := Gh hlt hLi
  have hsf := Gg (k := k) hlt
  have hroom := Ei hlt
  have htake := EP hlt
  have hle := HP l (i + 1)
  have e := Ht nm vs (BD k l i) hLi .top
  rw [hgi, LA] at e
  have hel := Kx (nm := nm) (vs := vs) hLi
  rw [hgi, Si, BI] at hel
  have hr := DW nm vs (BD k l i)
  have hlen : (ovL nm vs 0 (BD k l i)).length = l.length := by rw [EI, hLl]
  obtain ⟨x, hx⟩ : ∃ x, x = l[i] := ⟨_, rfl⟩
  obtain ⟨K, hK⟩ : ∃ K, K = k + (BG (l.take i) : Int) := ⟨_, rfl⟩
  try rw [← hx] at e
  try rw [← hx] at hroom
  try rw [← hx] at htake
  try rw [← hx] at hel
  rw [← hx] at hsf
  rw [← hK] at hsf
  rw [FZ] at hr
  obtain ⟨E, hE⟩ : ∃ E, E = ovL nm vs 0 (BD k l i) := ⟨_, rfl⟩
  have hcount : cnt x = 4 + BG x.kids + BG x.As := rfl
  rw [hcount] at htake
  have hbx : Ad.bulk x = Ad.bulk x.kind + Ad.bulk x.pos + Ad.bulk x.n + Ad.bulk x.s + Ad.bulk x.kids + Ad.bulk x.As + 1 := rfl
  have hbx_0 : Ad.bulk x.kind = 1 := rfl
  have hbx_1 : Ad.bulk x.pos = 1 := rfl
  have hbx_2 : Ad.bulk x.n = 1 := rfl
  have hbx_3 : Ad.bulk x.s = x.s.size + 1 := rfl
  have hbx_4 := BT x.kids
  have hbx_5 := BT x.As
  have hbl := Ao l
  have hKn : k + (BG (l.take (i + 1)) : Int) = K + 1 + 1 + 1 + 1 + (BG x.kids : Int) + (BG x.As : Int) := by rw [htake]; omega
  have hKb : K + (Ad.bulk x : Int) ≤ 4611686018427387904 := by omega
  have hK1 : 1 ≤ K := by omega
  have hmk : ov (sub nm i) vs (mkv K x) = AV.agg [.int .i64 (K), .int .i64 (K + 1), .int .i64 (K + 1 + 1), .str (DQ (K + 1 + 1 + 1)), .row (sub (sub nm i) 0) (vs (sub (sub nm i) 0)) x.kids.length, .row (sub (sub nm i) 1) (vs (sub (sub nm i) 1)) x.As.length] := by rw [Acy, LA]; simp only [DH]
  have hus : ovL nm vs 0 ((BD k l i).set i (mkv K x)) = E.set i (AV.agg [.int .i64 (K), .int .i64 (K + 1), .int .i64 (K + 1 + 1), .str (DQ (K + 1 + 1 + 1)), .row (sub (sub nm i) 0) (vs (sub (sub nm i) 0)) x.kids.length, .row (sub (sub nm i) 1) (vs (sub (sub nm i) 1)) x.As.length]) := by rw [Hs, hmk, ← hE]
  rw [← hE] at e hlen hr
  rw [← hK]
  have gs : ∀ a, (E.set i a).getD i .top = a := fun a => by rw [List.getD_eq_getElem?_getD, List.getElem?_set_self (by rw [hlen]; exact hlt)]; rfl
  have ls : ∀ a, (E.set i a).length = l.length := fun a => by rw [List.length_set, hlen]
  obtain ⟨H, hH⟩ : ∃ H, H = oh nm vs (BD k l i) := ⟨_, rfl⟩
  rw [← hH] at hr hel
  have hq : ∀ q, ¬ InT (sub nm i) q → q ≠ nm → Aw H q = Aw (oh nm vs (BD k l i)) q := fun q _ _ => by rw [hH]
  rw [show (AVal.n Node) = 6 from rfl] at hr
  rw [← hH]
  clear hH
  have hl0 := hel.1
  have hk0 := AH hl0
  have hn0 : ¬ InT (sub (sub nm i) 0) nm := IX
  have hb0 : (nm == sub (sub nm i) 0) = false := Ih
  have hl1 := hel.2
  have hk1 := AH hl1
  have hn1 : ¬ InT (sub (sub nm i) 1) nm := IX
  have hb1 : (nm == sub (sub nm i) 1) = false := Ih
  simp +contextual -dsimp only [↓SD, SU, simprocAttr, hlt, hlen, e, gs, ls, List.set_set, AO, false_and, hr, hk0, hk1, hb0, hb1]
  repeat (refine And.intro (by omega) ?_)
  refine Ab _ (Ex (K + 1 + 1 + 1) (by omega) (by omega)) ?_
  simp +contextual -dsimp only [↓SD, SU, simprocAttr, hlt, hlen, e, gs, ls, List.set_set, AO, false_and, hr, hk0, hk1, hb0, hb1]
  repeat (refine And.intro (by omega) ?_)
  refine Bb (on (sub (sub nm i) 0) x.kids) (I1 (sub (sub nm i) 0) vs x.kids _ (by omega) (by omega)) (Fm (by repeat (first | exact hl0 | refine Ai hn0 ?_))) ?_
  rintro r hp' ⟨rfl, rfl⟩ H0 hH0
  have hr0 := GY hH0 hn0 Cj
  have hq0 := Ig (X := fun q => Aw (oh nm vs (BD k l i)) q) hH0 (by repeat (first | exact hq | refine DN ?_))
  have hd0 := DG hH0
  first | have hl1_0 := BB hH0 (fun k h => C7 (by omega) h) hl1 | have hl1_0 := BB hH0 (fun k h => C7 (by omega) h) (Ai hn1 hl1) | have hl1_0 := BB hH0 (fun k h => C7 (by omega) h) (Ai hn1 (Ai hn1 hl1)) | have hl1_0 := BB hH0 (fun k h => C7 (by omega) h) (Ai hn1 (Ai hn1 (Ai hn1 hl1))) | have hl1_0 := BB hH0 (fun k h => C7 (by omega) h) (Ai hn1 (Ai hn1 (Ai hn1 (Ai hn1 hl1)))) | have hl1_0 := BB hH0 (fun k h => C7 (by omega) h) (Ai hn1 (Ai hn1 (Ai hn1 (Ai hn1 (Ai hn1 hl1))))) | have hl1_0 := BB hH0 (fun k h => C7 (by omega) h) (Ai hn1 (Ai hn1 (Ai hn1 (Ai hn1 (Ai hn1 (Ai hn1 hl1)))))) | have hl1_0 := BB hH0 (fun k h => C7 (by omega) h) (Ai hn1 (Ai hn1 (Ai hn1 (Ai hn1 (Ai hn1 (Ai hn1 (Ai hn1 hl1)))))))
  have hk1_0 := AH hl1_0
  rw [Ff]
  simp +contextual -dsimp only [↓SD, SU, simprocAttr, hlt, hlen, e, gs, ls, List.set_set, AO, false_and, hr0, hk1_0, hb0, hb1]
  repeat (refine And.intro (by omega) ?_)
  refine Bb (on (sub (sub nm i) 1) x.As) (Sm (sub (sub nm i) 1) vs x.As _ (by omega) (by omega)) (Fm (by repeat (first | exact hl1_0 | refine Ai hn1 ?_))) ?_
  rintro r hp' ⟨rfl, rfl⟩ H1 hH1
  have hr1 := GY hH1 hn1 hr0
  have hq1 := Ig (X := fun q => Aw (oh nm vs (BD k l i)) q) hH1 (by repeat (first | exact hq0 | refine DN ?_))
  have hd1 := DG hH1
  first | have hd0_1 := BB hH1 (fun k h => C7 (by omega) h) hd0 | have hd0_1 := BB hH1 (fun k h => C7 (by omega) h) (Ai hn0 hd0) | have hd0_1 := BB hH1 (fun k h => C7 (by omega) h) (Ai hn0 (Ai hn0 hd0)) | have hd0_1 := BB hH1 (fun k h => C7 (by omega) h) (Ai hn0 (Ai hn0 (Ai hn0 hd0))) | have hd0_1 := BB hH1 (fun k h => C7 (by omega) h) (Ai hn0 (Ai hn0 (Ai hn0 (Ai hn0 hd0)))) | have hd0_1 := BB hH1 (fun k h => C7 (by omega) h) (Ai hn0 (Ai hn0 (Ai hn0 (Ai hn0 (Ai hn0 hd0))))) | have hd0_1 := BB hH1 (fun k h => C7 (by omega) h) (Ai hn0 (Ai hn0 (Ai hn0 (Ai hn0 (Ai hn0 (Ai hn0 hd0)))))) | have hd0_1 := BB hH1 (fun k h => C7 (by omega) h) (Ai hn0 (Ai hn0 (Ai hn0 (Ai hn0 (Ai hn0 (Ai hn0 (Ai hn0 hd0)))))))
  rw [Ff]
  simp +contextual -dsimp only [↓SD, SU, simprocAttr, hlt, hlen, e, gs, ls, List.set_set, AO, false_and, hr1, hb0, hb1]
  repeat (refine And.intro (by omega) ?_)
  refine Af.le ⟨i + 1, ⟨hlt, (by first | omega | (simp only; omega))⟩, rfl⟩ (by simp +contextual -dsimp only [↓SD, SU, simprocAttr, Int.natCast_add, hKn]) ?_
  rw [← hsf]
  refine JY hLi ?_ ?_ ?_
  ·repeat (first | exact hq1 | refine DN ?_)
  ·rw [FZ, hus]; first | exact Cj | exact hr1
  ·rw [Si]; exact BI.2 ⟨(by repeat (first | exact hd0_1 | refine Ai hn0 ?_)), (by repeat (first | exact hd1 | refine Ai hn1 ?_))⟩
 ·obtain rfl : i = l.length := by omega
  rw [Fz, ER]
  have hr := DW nm vs (mkL k l)
  have hs := OVal.self nm vs (mkL k l)
  obtain ⟨H, hH⟩ : ∃ H, H = oh nm vs (mkL k l) := ⟨_, rfl⟩
  rw [← hH]
  simp +contextual -dsimp only [↓SD, SU, simprocAttr, Nat.lt_irrefl, Aa]
  refine Af.post H ?_
  simp +contextual -dsimp only [↓SD, SU, simprocAttr]
  exact ⟨by rw [hH]; exact hs, rfl, by rw [hH]; rfl⟩

instance : OVal Program where
 ty := 35
 ov nm vs x := .agg [ov (sub nm 0) vs x.types, ov (sub nm 1) vs x.nodes]
 oh nm vs x := oh (sub nm 0) vs x.types ++ oh (sub nm 1) vs x.nodes
 on nm x := on (sub nm 0) x.types ++ on (sub nm 1) x.nodes
 names nm vs x := by simp only [List.map_append, OVal.names]
 inn nm x k h := by rcases List.mem_append.1 h with h | h <;> exact (OVal.inn _ _ _ h).up
 self nm vs x := AcY (OVal.self _ _ _) (OVal.self _ _ _) fun p hp q hq e => by
  have h1 := OVal.inh hp
  have h2 := OVal.inh hq
  rw [e] at h2
  have := h1.sib h2
  omega
 Gm nm vs vs' x h := by
  obtain ⟨a0, b0⟩ := OVal.Gm (sub nm 0) vs vs' x.types (fun k hk => h k hk.up)
  obtain ⟨a1, b1⟩ := OVal.Gm (sub nm 1) vs vs' x.nodes (fun k hk => h k hk.up)
  simp only [a0, b0, a1, b1, and_self]
 Hk nm vs x hp h := by
  rw [BI] at h
  have h0 := OVal.Hk (sub nm 0) vs x.types hp h.1
  have h1 := OVal.Hk (sub nm 1) vs x.nodes (Cy (on (sub nm 0) x.types) hp) (O4 (fun p hp => JX (C7 (by omega) (OVal.inh hp))) h.2)
  rw [← FT] at h1
  have d0 : (ov (sub nm 0) vs x.types).pur (Cy (on (sub nm 0) x.types ++ on (sub nm 1) x.nodes) hp) = (ov (sub nm 0) vs x.types).pur (Cy (on (sub nm 0) x.types) hp) := OVal.dep _ _ _ _ _ fun k hk => by
   rw [FT, Dn (JX (C7 (by omega) hk))]
  rw [← d0] at h0
  show AV.agg [(ov (sub nm 0) vs x.types).pur (Cy (on (sub nm 0) x.types ++ on (sub nm 1) x.nodes) hp), (ov (sub nm 1) vs x.nodes).pur (Cy (on (sub nm 0) x.types ++ on (sub nm 1) x.nodes) hp)] = av x
  rw [h0, h1]; rfl
 dep nm vs x hp hp' h := by
  have h0 := OVal.dep (sub nm 0) vs x.types hp hp' (fun k hk => h k hk.up)
  have h1 := OVal.dep (sub nm 1) vs x.nodes hp hp' (fun k hk => h k hk.up)
  show AV.agg [(ov (sub nm 0) vs x.types).pur hp, (ov (sub nm 1) vs x.nodes).pur hp] = AV.agg [(ov (sub nm 0) vs x.types).pur hp', (ov (sub nm 1) vs x.nodes).pur hp']
  rw [h0, h1]
 free nm vs x p h := by rcases List.mem_append.1 h with h | h <;> exact OVal.free _ _ _ p h
 JH nm vs x y hx := by
  simp only [AV.cells, List.mem_cons, List.not_mem_nil, or_false] at hx
  rcases hx with rfl | rfl <;> rfl
 ok _ _ _ := rfl
 agg _ _ _ := rfl
 len _ _ _ := rfl
theorem Bl (nm : Nat) (vs : Nat → Nat) (x : Program) : ov nm vs x = .agg [.row (sub nm 0) (vs (sub nm 0)) x.types.length, .row (sub nm 1) (vs (sub nm 1)) x.nodes.length] := eqq rfl
theorem K3 (nm : Nat) (vs : Nat → Nat) (x : Program) : oh nm vs x = oh (sub nm 0) vs x.types ++ oh (sub nm 1) vs x.nodes := rfl

instance : Mk Program := ⟨fun k x => ⟨mkL (k) x.types, mkL (k + (BG x.types : Int)) x.nodes⟩, fun x => BG x.types + BG x.nodes⟩
theorem Nu (x : Program) : cnt x = BG x.types + BG x.nodes := rfl
instance : MkB Program := ⟨fun x => by
 have hbx : Ad.bulk x = Ad.bulk x.types + Ad.bulk x.nodes + 1 := rfl
 have hbx_0 := BT x.types
 have hbx_1 := BT x.nodes
 rw [Nu]
 omega⟩

theorem PY (nm : Nat) (x : Program) (hx : Ad.bulk x ≤ 1099511627776) : Ay Tryz.prog 6 [av x] [] (Fu nm x) := by
 have hb : Ad.bulk x.types + Ad.bulk x.nodes + 1 ≤ 1099511627776 := hx
 refine Gu.H rfl ?_
 simp +contextual -dsimp only [↓SD, SU, simprocAttr, Gu, Aj]
 (repeat' (first | intro _ | refine And.intro ?_ ?_))
 refine Bb [] (S4 (sub nm 0) x.types (by omega)) (by simp +contextual -dsimp only [↓SD, SU, simprocAttr]) ?_
 rintro r hp' ⟨v0, rfl, rfl⟩ H0 hH0
 rw [CK] at hH0
 have hold0 := GK hH0
 have ho0_0 : Bg H0 (oh (sub nm 0) v0 x.types) := by rw [hH0]; exact AX (OVal.self _ _ _)
 have hr0_0 := AH ho0_0
 simp +contextual -dsimp only [↓SD, SU, simprocAttr, AO, BH, hold0, hr0_0]
 refine Bb [] (S7 (sub nm 1) x.nodes (by omega)) (by simp +contextual -dsimp only [↓SD, SU, simprocAttr]) ?_
 rintro r hp' ⟨v1, rfl, rfl⟩ H1 hH1
 rw [CK] at hH1
 have hold1 := GK hH1
 have ho1_1 : Bg H1 (oh (sub nm 1) v1 x.nodes) := by rw [hH1]; exact AX (OVal.self _ _ _)
 have hr1_1 := AH ho1_1
 have ho1_0 : Bg H1 (oh (sub nm 0) v0 x.types) := A3.2 fun p hp => by rw [hH1, Dh (Ii (C7 (by omega) (OVal.inh hp)))]; exact A3.1 (by repeat (first | exact ho0_0 | refine ED ?_ (by omega))) p hp
 have hr1_0 := AH ho1_0
 simp +contextual -dsimp only [↓SD, SU, simprocAttr, AO, BH, hold0, hold1, hr1_0, hr1_1]
 have hne : ∀ k, InT (sub nm 1) k → ¬ InT (sub nm 0) k := fun k h => C7 (by omega) h
 have he : oh nm (glue (sub nm 0) v0 v1) x = oh (sub nm 0) v0 x.types ++ oh (sub nm 1) v1 x.nodes := by rw [K3, Sh, OE v0 v1 _ hne]
 refine Af.post (oh nm (glue (sub nm 0) v0 v1) x) ?_
 simp +contextual -dsimp only [↓SD, SU, simprocAttr, BH, hold1, hold0, false_and, hr1_0, hr1_1]
 refine ⟨?_, _, ?_, rfl⟩
 ·rw [he, BI]
  exact ⟨(by repeat (first | exact ho1_0 | refine ED ?_ (by omega))), (by repeat (first | exact ho1_1 | refine ED ?_ (by omega)))⟩
 ·rw [Bl, KA .root, Md (hne _ .root)]

theorem NI (nm : Nat) (vs : Nat → Nat) (x : Program) (k : Int) (h0 : 1 ≤ k) (h1 : k + (Ad.bulk x : Int) ≤ 4611686018427387904) : Ay Tryz.prog 12 [ov nm vs x, .int .i64 k] (oh nm vs x) (Fg nm vs k x) := by
 have hbx : Ad.bulk x = Ad.bulk x.types + Ad.bulk x.nodes + 1 := rfl
 have hbx_0 := BT x.types
 have hbx_1 := BT x.nodes
 obtain ⟨H, hH⟩ : ∃ H, H = oh nm vs x := ⟨_, rfl⟩
 have hs : Bg H (oh nm vs x) := by rw [hH]; exact OVal.self nm vs x
 rw [← hH]
 rw [K3, BI] at hs
 refine Gx.H rfl ?_
 have hl0 := hs.1
 have hk0 := AH hl0
 have hl1 := hs.2
 have hk1 := AH hl1
 simp +contextual -dsimp only [↓SD, SU, simprocAttr, Gx, Bl, false_and, hk0, hk1]
 refine Bb (on (sub nm 0) x.types) (P1 (sub nm 0) vs x.types _ (by omega) (by omega)) (Fm hl0) ?_
 rintro r hp' ⟨rfl, rfl⟩ H0 hH0
 have hd0 := DG hH0
 have hl1_0 := BB hH0 (fun k h => C7 (by omega) h) hl1
 have hk1_0 := AH hl1_0
 rw [Ff]
 simp +contextual -dsimp only [↓SD, SU, simprocAttr, Bl, false_and, hk1_0]
 refine Bb (on (sub nm 1) x.nodes) (P2 (sub nm 1) vs x.nodes _ (by omega) (by omega)) (Fm hl1_0) ?_
 rintro r hp' ⟨rfl, rfl⟩ H1 hH1
 have hd1 := DG hH1
 have hd0_1 := BB hH1 (fun k h => C7 (by omega) h) hd0
 rw [Ff]
 simp +contextual -dsimp only [↓SD, SU, simprocAttr, Bl, false_and]
 refine Af.post (oh nm vs (mkv k x)) ?_
 simp +contextual -dsimp only [↓SD, SU, simprocAttr]
 refine ⟨by rw [K3]; exact BI.2 ⟨hd0_1, hd1⟩, ?_, rfl⟩
 rw [Nu]; exact congrArg _ (by omega)

end Go.Proofs.YtjbcnilllfaipaaGreat
