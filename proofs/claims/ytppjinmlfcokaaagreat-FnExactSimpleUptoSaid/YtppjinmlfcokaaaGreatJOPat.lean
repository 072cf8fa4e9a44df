/-
 Bu, Pat IN ROWS OF THEIR OWN: copies, marks, by abstract texts. Conditions: none. Printed by genown.py.
-/
import Derived.Test.YtppjinmlfcokaaaGreatJJ14
import Derived.Test.YtppjinmlfcokaaaGreatJJ08
import Derived.Test.YtppjinmlfcokaaaGreatJJ11
set_option linter.unusedVariables false
set_option linter.unusedSimpArgs false
set_option maxRecDepth 100000
namespace Go.Proofs.YtppjinmlfcokaaaGreat
open Go.RowKit Go.Proofs.YtppjinmlfcokaaaGreat.Av Go.Proofs.YtppjinmlfcokaaaGreat.Ml
open Go.Proofs.YtppjinmlfcokaaaGreat.Av.AVal (av)
open OVal (ov oh on)
open Mk (mkv cnt)

instance : OVal Bu where
 ty := 96
 ov nm vs x := .agg [.int .i64 x.kind, .int .i64 x.n, .str x.s, ov (sub nm 0) vs x.kids]
 oh nm vs x := oh (sub nm 0) vs x.kids
 on nm x := on (sub nm 0) x.kids
 names nm vs x := OVal.names _ _ _
 inn nm x k h := (OVal.inn _ _ _ h).up
 self nm vs x := OVal.self _ _ _
 FL nm vs vs' x h := by
  obtain ⟨a0, b0⟩ := OVal.FL (sub nm 0) vs vs' x.kids (fun k hk => h k hk.up)
  simp only [a0, b0, and_self]
 HE nm vs x hp h := by
  have h0 := OVal.HE (sub nm 0) vs x.kids hp h
  show AV.agg [.int .i64 x.kind, .int .i64 x.n, .str x.s, (ov (sub nm 0) vs x.kids).pur (B3 (on (sub nm 0) x.kids) hp)] = av x
  rw [h0]; rfl
 dep nm vs x hp hp' h := by
  have h0 := OVal.dep (sub nm 0) vs x.kids hp hp' (fun k hk => h k hk.up)
  show AV.agg [.int .i64 x.kind, .int .i64 x.n, .str x.s, (ov (sub nm 0) vs x.kids).pur hp] = AV.agg [.int .i64 x.kind, .int .i64 x.n, .str x.s, (ov (sub nm 0) vs x.kids).pur hp']
  rw [h0]
 free nm vs x p h := by exact OVal.free _ _ _ p h
 Kq nm vs x y hx := by
  simp only [AV.cells, List.mem_cons, List.not_mem_nil, or_false] at hx
  rcases hx with rfl | rfl | rfl | rfl <;> rfl
 ok _ _ _ := rfl
 agg _ _ _ := rfl
 len _ _ _ := rfl
theorem Hx (nm : Nat) (vs : Nat → Nat) (x : Bu) : ov nm vs x = .agg [.int .i64 x.kind, .int .i64 x.n, .str x.s, .row (sub nm 0) (vs (sub nm 0)) x.kids.length] := eqq rfl
theorem KB (nm : Nat) (vs : Nat → Nat) (x : Bu) : oh nm vs x = oh (sub nm 0) vs x.kids := rfl

instance : Mk Bu := ⟨fun k x => ⟨k, k + 1, Ec (k + 1 + 1), mkL (k + 1 + 1 + 1) x.kids⟩, fun x => 3 + A0 x.kids⟩
theorem VC (k : Int) (x : Bu) : mkv k x = ⟨k, k + 1, Ec (k + 1 + 1), mkL (k + 1 + 1 + 1) x.kids⟩ := rfl
theorem AbC (x : Bu) : cnt x = 3 + A0 x.kids := rfl
instance : MkB Bu := ⟨fun x => by
 have hbx : Ac.bulk x = Ac.bulk x.kind + Ac.bulk x.n + Ac.bulk x.s + Ac.bulk x.kids + 1 := rfl
 have hbx_0 : Ac.bulk x.kind = 1 := rfl
 have hbx_1 : Ac.bulk x.n = 1 := rfl
 have hbx_2 : Ac.bulk x.s = x.s.size + 1 := rfl
 have hbx_3 := BA x.kids
 rw [AbC]
 omega⟩

theorem Ui (nm : Nat) (x : Bu) (hx : Ac.bulk x ≤ 4294967296) : AU Tryz.prog 203 [av x] [] (BW nm x) := by
 have hb : Ac.bulk x.kind + Ac.bulk x.n + Ac.bulk x.s + Ac.bulk x.kids + 1 ≤ 4294967296 := hx
 refine Ig.H rfl ?_
 simp +contextual -dsimp only [↓SD, SU, simprocAttr, Ig, A3]
 (repeat' (first | intro _ | refine And.intro ?_ ?_))
 refine As [] (Pg (sub nm 0) x.kids (by omega)) (by simp +contextual -dsimp only [↓SD, SU, simprocAttr]) ?_
 rintro r hp' ⟨v0, rfl, rfl⟩ H0 hH0
 rw [Bs] at hH0
 have hold0 := EK hH0
 have ho0_0 : Ax H0 (oh (sub nm 0) v0 x.kids) := by rw [hH0]; exact Bz (OVal.self _ _ _)
 have hr0_0 := Aq ho0_0
 simp +contextual -dsimp only [↓SD, SU, simprocAttr, AJ, AQ, hold0, hr0_0]
 refine Af.post (oh nm v0 x) ?_
 simp +contextual -dsimp only [↓SD, SU, simprocAttr, AQ, hold0, false_and, hr0_0]
 refine ⟨by rw [KB]; exact (by repeat (first | exact ho0_0 | refine Eg ?_ (by omega))), v0, ?_, rfl⟩
 rw [Hx]

theorem Tg (nm : Nat) (l : List Bu) (hx : Ac.bulk l ≤ 4294967296) : AU Tryz.prog 187 [.sl (l.map av)] [] (BW nm l) := by
 have hl := Ag l
 refine HI.H rfl ?_
 simp +contextual -dsimp only [↓SD, SU, simprocAttr, HI, Aa]
 refine ⟨by omega, fun v => ?_⟩
 refine Am (X := Nat × (Nat → Nat)) (fun x => ⟨[(0, .sl (l.map av)), (3, .row 7 v l.length), (4, .int .i64 x.1)], (7, ⟨v, false, 96, 4, Co nm x.2 l (AV.agg [.int .i64 0, .int .i64 0, .str (bs []), .Aj]) x.1⟩) :: ohL nm x.2 0 (l.take x.1)⟩) (fun x => x.1 ≤ l.length) (fun x => l.length - x.1) (0, fun _ => 0) (Nat.zero_le _) (by simp +contextual -dsimp only [↓SD, SU, simprocAttr]) (by simp +contextual -dsimp only [↓SD, SU, simprocAttr, HR, List.take_zero, EL]) ?_
 rintro ⟨k, vs⟩ hk
 dsimp only at hk ⊢
 by_cases hlt : k < l.length
 ·have e := getD_map av l k .top hlt
  have hbk : Ac.bulk l[k] ≤ 4294967296 := by have := AG (List.getElem_mem hlt); omega
  have e1 := Jv (nm := nm) (vs := vs) (AV.agg [.int .i64 0, .int .i64 0, .str (bs []), .Aj]) hk
  have e2 := Jw (nm := nm) (vs := vs) (AV.agg [.int .i64 0, .int .i64 0, .str (bs []), .Aj]) hlt .top
  obtain ⟨H, hH⟩ : ∃ H, H = ((7, ⟨v, false, 96, 4, Co nm vs l (AV.agg [.int .i64 0, .int .i64 0, .str (bs []), .Aj]) k⟩) :: ohL nm vs 0 (l.take k) : Hp) := ⟨_, rfl⟩
  have h7 : An H 7 = some ⟨v, false, 96, 4, Co nm vs l (AV.agg [.int .i64 0, .int .i64 0, .str (bs []), .Aj]) k⟩ := by rw [hH]; exact AZ
  rw [← hH]
  simp +contextual -dsimp only [↓SD, SU, simprocAttr, Aa, hlt, e, A3, h7]
  have C := Ui (sub nm k) l[k] hbk
  rw [A3] at C
  refine As [] C (by simp +contextual -dsimp only [↓SD, SU, simprocAttr]) ?_
  rintro r hp' ⟨v1, rfl, rfl⟩ H1 hH1
  have h71 : An H1 7 = some ⟨v, false, 96, 4, Co nm vs l (AV.agg [.int .i64 0, .int .i64 0, .str (bs []), .Aj]) k⟩ := by
   rw [hH1, Bs, BR (FE fun h' => by have := h'.ge; omega)]; exact h7
  have e3 := Ju (nm := nm) (vs := v1) (vs' := vs) (z := (AV.agg [.int .i64 0, .int .i64 0, .str (bs []), .Aj])) hlt
  rw [Hx] at e3
  simp +contextual -dsimp only [↓SD, SU, simprocAttr, Aa, hlt, e, A3, Hx, h71, e1, e2, e3]
  rw [hH] at hH1
  refine ⟨by omega, Af.le ⟨(k + 1, glue (sub nm k) v1 vs), ⟨hlt, (by first | omega | (simp only; omega))⟩, rfl⟩ (by simp +contextual -dsimp only [↓SD, SU, simprocAttr, Int.natCast_add]) ?_⟩
  exact Np hlt (by omega) hH1
 ·obtain rfl : k = l.length := by omega
  rw [List.take_length]
  have ef : Co nm vs l (AV.agg [.int .i64 0, .int .i64 0, .str (bs []), .Aj]) l.length = ovL nm vs 0 l := by simp [Co]
  rw [ef]
  obtain ⟨H, hH⟩ : ∃ H, H = ((7, ⟨v, false, 96, 4, ovL nm vs 0 l⟩) :: ohL nm vs 0 l : Hp) := ⟨_, rfl⟩
  rw [← hH]
  simp +contextual -dsimp only [↓SD, SU, simprocAttr, Aa, Nat.lt_irrefl]
  rw [hH]
  refine Af.ren 2 7 nm (v := v) (n := l.length) rfl AZ rfl fun v' => ?_
  obtain ⟨H', hH'⟩ : ∃ H', H' = ((nm, ⟨v', false, 96, 4, ovL nm vs 0 l⟩) :: B1 [7] ((7, ⟨v, false, 96, 4, ovL nm vs 0 l⟩) :: ohL nm vs 0 l) : Hp) := ⟨_, rfl⟩
  have hr : An H' nm = some ⟨v', false, 96, 4, ovL nm vs 0 l⟩ := by rw [hH']; exact AZ
  have hle := Iw (α := Bu) (nm := nm) (j := 7) (l := l) (vs := vs) (by omega) hH'
  dsimp only
  rw [← hH']
  refine Af.post (oh nm (glue nm (fun k => if k = nm then v' else vs k) vs) l) ?_
  simp +contextual -dsimp only [↓SD, SU, simprocAttr, hr]
  exact ⟨hle, _, (FU l).1.symm, rfl⟩

set_option maxHeartbeats 1000000 in
theorem PU (nm : Nat) (vs : Nat → Nat) (l : List Bu) (k : Int) (h0 : 1 ≤ k) (h1 : k + (Ac.bulk l : Int) ≤ 4611686018427387904) : AU Tryz.prog 137 [ov nm vs l, .int .i64 k] (oh nm vs l) (GS nm vs k l) := by
 refine HK.H rfl ?_
 simp +contextual -dsimp only [↓SD, SU, simprocAttr, HK, AJ]
 refine Am (X := Nat) (fun i => ⟨[(0, .row nm (vs nm) l.length), (1, .int .i64 (k + (A0 (l.take i) : Int))), (5, .int .i64 i)], oh nm vs (BL k l i)⟩) (fun i => i ≤ l.length) (fun i => l.length - i) 0 (Nat.zero_le _) (by simp +contextual -dsimp only [↓SD, SU, simprocAttr, List.take_zero, DI, Int.natCast_zero, Int.add_zero]) (by rw [Gm]; exact OVal.self _ _ _) ?_
 rintro i hi
 by_cases hlt : i < l.length
 ·have hLi : i < (BL k l i).length := by rw [DC hi]; exact hlt
  have hLl : (BL k l i).length = l.length := DC hi
  have hgi := HB hlt hLi
  have hsf := HA (k := k) hlt
  have hroom := Cp hlt
  have htake := Df hlt
  have hle := JR l (i + 1)
  have e := Ep nm vs (BL k l i) hLi .top
  rw [hgi, Hx] at e
  have hel := Lp (nm := nm) (vs := vs) hLi
  rw [hgi, KB] at hel
  have hr := Er nm vs (BL k l i)
  have hlen : (ovL nm vs 0 (BL k l i)).length = l.length := by rw [B2, hLl]
  obtain ⟨x, hx⟩ : ∃ x, x = l[i] := ⟨_, rfl⟩
  obtain ⟨K, hK⟩ : ∃ K, K = k + (A0 (l.take i) : Int) := ⟨_, rfl⟩
  try rw [← hx] at e
  try rw [← hx] at hroom
  try rw [← hx] at htake
  try rw [← hx] at hel
  rw [← hx] at hsf
  rw [← hK] at hsf
  rw [Dv] at hr
  obtain ⟨E, hE⟩ : ∃ E, E = ovL nm vs 0 (BL k l i) := ⟨_, rfl⟩
  have hcount : cnt x = 3 + A0 x.kids := rfl
  rw [hcount] at htake
  have hbx : Ac.bulk x = Ac.bulk x.kind + Ac.bulk x.n + Ac.bulk x.s + Ac.bulk x.kids + 1 := rfl
  have hbx_0 : Ac.bulk x.kind = 1 := rfl
  have hbx_1 : Ac.bulk x.n = 1 := rfl
  have hbx_2 : Ac.bulk x.s = x.s.size + 1 := rfl
  have hbx_3 := BA x.kids
  have hbl := Ag l
  have hKn : k + (A0 (l.take (i + 1)) : Int) = K + 1 + 1 + 1 + (A0 x.kids : Int) := by rw [htake]; omega
  have hKb : K + (Ac.bulk x : Int) ≤ 4611686018427387904 := by omega
  have hK1 : 1 ≤ K := by omega
  have hmk : ov (sub nm i) vs (mkv K x) = AV.agg [.int .i64 (K), .int .i64 (K + 1), .str (Ec (K + 1 + 1)), .row (sub (sub nm i) 0) (vs (sub (sub nm i) 0)) x.kids.length] := by rw [VC, Hx]; simp only [A6]
  have hus : ovL nm vs 0 ((BL k l i).set i (mkv K x)) = E.set i (AV.agg [.int .i64 (K), .int .i64 (K + 1), .str (Ec (K + 1 + 1)), .row (sub (sub nm i) 0) (vs (sub (sub nm i) 0)) x.kids.length]) := by rw [HZ, hmk, ← hE]
  rw [← hE] at e hlen hr
  rw [← hK]
  have gs : ∀ a, (E.set i a).getD i .top = a := fun a => by rw [List.getD_eq_getElem?_getD, List.getElem?_set_self (by rw [hlen]; exact hlt)]; rfl
  have ls : ∀ a, (E.set i a).length = l.length := fun a => by rw [List.length_set, hlen]
  obtain ⟨H, hH⟩ : ∃ H, H = oh nm vs (BL k l i) := ⟨_, rfl⟩
  rw [← hH] at hr hel
  have hq : ∀ q, ¬ InT (sub nm i) q → q ≠ nm → An H q = An (oh nm vs (BL k l i)) q := fun q _ _ => by rw [hH]
  rw [show (AVal.n Bu) = 4 from rfl] at hr
  rw [← hH]
  clear hH
  have hl0 := hel
  have hk0 := Aq hl0
  have hn0 : ¬ InT (sub (sub nm i) 0) nm := JF
  have hb0 : (nm == sub (sub nm i) 0) = false := IX
  simp +contextual -dsimp only [↓SD, SU, simprocAttr, hlt, hlen, e, gs, ls, List.set_set, AJ, false_and, hr, hk0, hb0]
  repeat (refine And.intro (by omega) ?_)
  refine Ab _ (Dm (K + 1 + 1) (by omega) (by omega)) ?_
  simp +contextual -dsimp only [↓SD, SU, simprocAttr, hlt, hlen, e, gs, ls, List.set_set, AJ, false_and, hr, hk0, hb0]
  repeat (refine And.intro (by omega) ?_)
  refine As (on (sub (sub nm i) 0) x.kids) (MR (sub (sub nm i) 0) vs x.kids _ (by omega) (by omega)) (Dd (by repeat (first | exact hl0 | refine Al hn0 ?_))) ?_
  rintro r hp' ⟨rfl, rfl⟩ H0 hH0
  have hr0 := Ei hH0 hn0 AZ
  have hq0 := IW (X := fun q => An (oh nm vs (BL k l i)) q) hH0 (by repeat (first | exact hq | refine DV ?_))
  have hd0 := Cb hH0
  rw [F6]
  simp +contextual -dsimp only [↓SD, SU, simprocAttr, hlt, hlen, e, gs, ls, List.set_set, AJ, false_and, hr0, hb0]
  repeat (refine And.intro (by omega) ?_)
  refine Af.le ⟨i + 1, ⟨hlt, (by first | omega | (simp only; omega))⟩, rfl⟩ (by simp +contextual -dsimp only [↓SD, SU, simprocAttr, Int.natCast_add, hKn]) ?_
  rw [← hsf]
  refine L1 hLi ?_ ?_ ?_
  ·repeat (first | exact hq0 | refine DV ?_)
  ·rw [Dv, hus]; first | exact AZ | exact hr0
  ·rw [KB]; exact (by repeat (first | exact hd0 | refine Al hn0 ?_))
 ·obtain rfl : i = l.length := by omega
  rw [Gn, Dg]
  have hr := Er nm vs (mkL k l)
  have hs := OVal.self nm vs (mkL k l)
  obtain ⟨H, hH⟩ : ∃ H, H = oh nm vs (mkL k l) := ⟨_, rfl⟩
  rw [← hH]
  simp +contextual -dsimp only [↓SD, SU, simprocAttr, Nat.lt_irrefl, Aa]
  refine Af.post H ?_
  simp +contextual -dsimp only [↓SD, SU, simprocAttr]
  exact ⟨by rw [hH]; exact hs, rfl, by rw [hH]; rfl⟩

set_option maxHeartbeats 1000000 in
theorem Qg (l : List Bu) (k : Int) (h0 : 1 ≤ k) (h1 : k + (Ac.bulk l : Int) ≤ 4611686018427387904) : Ak Tryz.prog 139 [.sl ((mkL k l).map av), .int .i64 k] (.int .i64 (k + (A0 l : Int))) := by
 refine HL.F rfl (by simp; exact ⟨Ao _, Bo _⟩) (Bo _) ?_
 simp +contextual -dsimp only [↓SD, SU, simprocAttr, HL, Aa, A6]
 refine Am (X := Nat) (fun i => ⟨[(0, .sl ((mkL k l).map av)), (1, .int .i64 (k + (A0 (l.take i) : Int))), (5, .int .i64 i)], []⟩) (fun i => i ≤ l.length) (fun i => l.length - i) 0 (Nat.zero_le _) (by simp +contextual -dsimp only [↓SD, SU, simprocAttr, List.take_zero, DI, Int.natCast_zero, Int.add_zero]) trivial ?_
 rintro i hi
 by_cases hlt : i < l.length
 ·have hroom := Cp hlt
  have htake := Df hlt
  have e := getD_map av (mkL k l) i .top (by rw [A6]; exact hlt)
  rw [H6 k l i hlt] at e
  rw [VC, A3] at e
  obtain ⟨x, hx⟩ : ∃ x, x = l[i] := ⟨_, rfl⟩
  obtain ⟨K, hK⟩ : ∃ K, K = k + (A0 (l.take i) : Int) := ⟨_, rfl⟩
  rw [← hx] at hroom htake e
  rw [← hK] at e ⊢
  have hcount : cnt x = 3 + A0 x.kids := rfl
  rw [hcount] at htake
  have hbx : Ac.bulk x = Ac.bulk x.kind + Ac.bulk x.n + Ac.bulk x.s + Ac.bulk x.kids + 1 := rfl
  have hbx_0 : Ac.bulk x.kind = 1 := rfl
  have hbx_1 : Ac.bulk x.n = 1 := rfl
  have hbx_2 : Ac.bulk x.s = x.s.size + 1 := rfl
  have hbx_3 := BA x.kids
  have hbl := Ag l
  have hKn : k + (A0 (l.take (i + 1)) : Int) = K + 1 + 1 + 1 + (A0 x.kids : Int) := by rw [htake]; omega
  have hKb : K + (Ac.bulk x : Int) ≤ 4611686018427387904 := by omega
  have hK1 : 1 ≤ K := by omega
  simp +contextual -dsimp only [↓SD, SU, simprocAttr, hlt, Aa, A6, e]
  repeat (refine And.intro (by omega) ?_)
  refine Ab _ (Dm (K + 1 + 1) (by omega) (by omega)) ?_
  simp +contextual -dsimp only [↓SD, SU, simprocAttr, hlt, Aa, A6, e]
  repeat (refine And.intro (by omega) ?_)
  refine Ab _ (Ni x.kids (K + 1 + 1 + 1) (by omega) (by omega)) ?_
  have g0 : ¬ K + 1 + 1 + 1 + (A0 x.kids : Int) < 0 := by omega
  simp +contextual -dsimp only [↓SD, SU, simprocAttr, hlt, Aa, A6, e, g0]
  repeat (refine And.intro (by omega) ?_)
  exact Af.le ⟨i + 1, ⟨hlt, (by first | omega | (simp only; omega))⟩, rfl⟩ (by simp +contextual -dsimp only [↓SD, SU, simprocAttr, Int.natCast_add, hKn]) trivial
 ·obtain rfl : i = l.length := by omega
  rw [Dg]
  simp +contextual -dsimp only [↓SD, SU, simprocAttr, Nat.lt_irrefl, Aa, A6]

instance : OVal Pat where
 ty := 86
 ov nm vs x := .agg [ov (sub nm 0) vs x.nodes]
 oh nm vs x := oh (sub nm 0) vs x.nodes
 on nm x := on (sub nm 0) x.nodes
 names nm vs x := OVal.names _ _ _
 inn nm x k h := (OVal.inn _ _ _ h).up
 self nm vs x := OVal.self _ _ _
 FL nm vs vs' x h := by
  obtain ⟨a0, b0⟩ := OVal.FL (sub nm 0) vs vs' x.nodes (fun k hk => h k hk.up)
  simp only [a0, b0, and_self]
 HE nm vs x hp h := by
  have h0 := OVal.HE (sub nm 0) vs x.nodes hp h
  show AV.agg [(ov (sub nm 0) vs x.nodes).pur (B3 (on (sub nm 0) x.nodes) hp)] = av x
  rw [h0]; rfl
 dep nm vs x hp hp' h := by
  have h0 := OVal.dep (sub nm 0) vs x.nodes hp hp' (fun k hk => h k hk.up)
  show AV.agg [(ov (sub nm 0) vs x.nodes).pur hp] = AV.agg [(ov (sub nm 0) vs x.nodes).pur hp']
  rw [h0]
 free nm vs x p h := by exact OVal.free _ _ _ p h
 Kq nm vs x y hx := by
  simp only [AV.cells, List.mem_cons, List.not_mem_nil, or_false] at hx
  subst hx <;> rfl
 ok _ _ _ := rfl
 agg _ _ _ := rfl
 len _ _ _ := rfl
theorem JG (nm : Nat) (vs : Nat → Nat) (x : Pat) : ov nm vs x = .agg [.row (sub nm 0) (vs (sub nm 0)) x.nodes.length] := eqq rfl
theorem NJ (nm : Nat) (vs : Nat → Nat) (x : Pat) : oh nm vs x = oh (sub nm 0) vs x.nodes := rfl

instance : Mk Pat := ⟨fun k x => ⟨mkL (k) x.nodes⟩, fun x => A0 x.nodes⟩
theorem AcL (k : Int) (x : Pat) : mkv k x = ⟨mkL (k) x.nodes⟩ := rfl
theorem Aem (x : Pat) : cnt x = A0 x.nodes := rfl
instance : MkB Pat := ⟨fun x => by
 have hbx : Ac.bulk x = Ac.bulk x.nodes + 1 := rfl
 have hbx_0 := BA x.nodes
 rw [Aem]
 omega⟩

theorem AaR (nm : Nat) (x : Pat) (hx : Ac.bulk x ≤ 4294967296) : AU Tryz.prog 151 [av x] [] (BW nm x) := by
 have hb : Ac.bulk x.nodes + 1 ≤ 4294967296 := hx
 refine J9.H rfl ?_
 simp +contextual -dsimp only [↓SD, SU, simprocAttr, J9, Cc]
 (repeat' (first | intro _ | refine And.intro ?_ ?_))
 refine As [] (Tg (sub nm 0) x.nodes (by omega)) (by simp +contextual -dsimp only [↓SD, SU, simprocAttr]) ?_
 rintro r hp' ⟨v0, rfl, rfl⟩ H0 hH0
 rw [Bs] at hH0
 have hold0 := EK hH0
 have ho0_0 : Ax H0 (oh (sub nm 0) v0 x.nodes) := by rw [hH0]; exact Bz (OVal.self _ _ _)
 have hr0_0 := Aq ho0_0
 simp +contextual -dsimp only [↓SD, SU, simprocAttr, AJ, AQ, hold0, hr0_0]
 refine Af.post (oh nm v0 x) ?_
 simp +contextual -dsimp only [↓SD, SU, simprocAttr, AQ, hold0, false_and, hr0_0]
 refine ⟨by rw [NJ]; exact (by repeat (first | exact ho0_0 | refine Eg ?_ (by omega))), v0, ?_, rfl⟩
 rw [JG]

theorem Xz (nm : Nat) (l : List Pat) (hx : Ac.bulk l ≤ 4294967296) : AU Tryz.prog 91 [.sl (l.map av)] [] (BW nm l) := by
 have hl := Ag l
 refine Ja.H rfl ?_
 simp +contextual -dsimp only [↓SD, SU, simprocAttr, Ja, Aa]
 refine ⟨by omega, fun v => ?_⟩
 refine Am (X := Nat × (Nat → Nat)) (fun x => ⟨[(0, .sl (l.map av)), (3, .row 7 v l.length), (4, .int .i64 x.1)], (7, ⟨v, false, 86, 1, Co nm x.2 l (AV.agg [.Aj]) x.1⟩) :: ohL nm x.2 0 (l.take x.1)⟩) (fun x => x.1 ≤ l.length) (fun x => l.length - x.1) (0, fun _ => 0) (Nat.zero_le _) (by simp +contextual -dsimp only [↓SD, SU, simprocAttr]) (by simp +contextual -dsimp only [↓SD, SU, simprocAttr, HR, List.take_zero, EL]) ?_
 rintro ⟨k, vs⟩ hk
 dsimp only at hk ⊢
 by_cases hlt : k < l.length
 ·have e := getD_map av l k .top hlt
  have hbk : Ac.bulk l[k] ≤ 4294967296 := by have := AG (List.getElem_mem hlt); omega
  have e1 := Jv (nm := nm) (vs := vs) (AV.agg [.Aj]) hk
  have e2 := Jw (nm := nm) (vs := vs) (AV.agg [.Aj]) hlt .top
  obtain ⟨H, hH⟩ : ∃ H, H = ((7, ⟨v, false, 86, 1, Co nm vs l (AV.agg [.Aj]) k⟩) :: ohL nm vs 0 (l.take k) : Hp) := ⟨_, rfl⟩
  have h7 : An H 7 = some ⟨v, false, 86, 1, Co nm vs l (AV.agg [.Aj]) k⟩ := by rw [hH]; exact AZ
  rw [← hH]
  simp +contextual -dsimp only [↓SD, SU, simprocAttr, Aa, hlt, e, Cc, h7]
  have C := AaR (sub nm k) l[k] hbk
  rw [Cc] at C
  refine As [] C (by simp +contextual -dsimp only [↓SD, SU, simprocAttr]) ?_
  rintro r hp' ⟨v1, rfl, rfl⟩ H1 hH1
  have h71 : An H1 7 = some ⟨v, false, 86, 1, Co nm vs l (AV.agg [.Aj]) k⟩ := by
   rw [hH1, Bs, BR (FE fun h' => by have := h'.ge; omega)]; exact h7
  have e3 := Ju (nm := nm) (vs := v1) (vs' := vs) (z := (AV.agg [.Aj])) hlt
  rw [JG] at e3
  simp +contextual -dsimp only [↓SD, SU, simprocAttr, Aa, hlt, e, Cc, JG, h71, e1, e2, e3]
  rw [hH] at hH1
  refine ⟨by omega, Af.le ⟨(k + 1, glue (sub nm k) v1 vs), ⟨hlt, (by first | omega | (simp only; omega))⟩, rfl⟩ (by simp +contextual -dsimp only [↓SD, SU, simprocAttr, Int.natCast_add]) ?_⟩
  exact Np hlt (by omega) hH1
 ·obtain rfl : k = l.length := by omega
  rw [List.take_length]
  have ef : Co nm vs l (AV.agg [.Aj]) l.length = ovL nm vs 0 l := by simp [Co]
  rw [ef]
  obtain ⟨H, hH⟩ : ∃ H, H = ((7, ⟨v, false, 86, 1, ovL nm vs 0 l⟩) :: ohL nm vs 0 l : Hp) := ⟨_, rfl⟩
  rw [← hH]
  simp +contextual -dsimp only [↓SD, SU, simprocAttr, Aa, Nat.lt_irrefl]
  rw [hH]
  refine Af.ren 2 7 nm (v := v) (n := l.length) rfl AZ rfl fun v' => ?_
  obtain ⟨H', hH'⟩ : ∃ H', H' = ((nm, ⟨v', false, 86, 1, ovL nm vs 0 l⟩) :: B1 [7] ((7, ⟨v, false, 86, 1, ovL nm vs 0 l⟩) :: ohL nm vs 0 l) : Hp) := ⟨_, rfl⟩
  have hr : An H' nm = some ⟨v', false, 86, 1, ovL nm vs 0 l⟩ := by rw [hH']; exact AZ
  have hle := Iw (α := Pat) (nm := nm) (j := 7) (l := l) (vs := vs) (by omega) hH'
  dsimp only
  rw [← hH']
  refine Af.post (oh nm (glue nm (fun k => if k = nm then v' else vs k) vs) l) ?_
  simp +contextual -dsimp only [↓SD, SU, simprocAttr, hr]
  exact ⟨hle, _, (FU l).1.symm, rfl⟩

set_option maxHeartbeats 1000000 in
theorem TC (nm : Nat) (vs : Nat → Nat) (l : List Pat) (k : Int) (h0 : 1 ≤ k) (h1 : k + (Ac.bulk l : Int) ≤ 4611686018427387904) : AU Tryz.prog 72 [ov nm vs l, .int .i64 k] (oh nm vs l) (GS nm vs k l) := by
 refine Jg.H rfl ?_
 simp +contextual -dsimp only [↓SD, SU, simprocAttr, Jg, AJ]
 refine Am (X := Nat) (fun i => ⟨[(0, .row nm (vs nm) l.length), (1, .int .i64 (k + (A0 (l.take i) : Int))), (5, .int .i64 i)], oh nm vs (BL k l i)⟩) (fun i => i ≤ l.length) (fun i => l.length - i) 0 (Nat.zero_le _) (by simp +contextual -dsimp only [↓SD, SU, simprocAttr, List.take_zero, DI, Int.natCast_zero, Int.add_zero]) (by rw [Gm]; exact OVal.self _ _ _) ?_
 rintro i hi
 by_cases hlt : i < l.length
 ·have hLi : i < (BL k l i).length := by rw [DC hi]; exact hlt
  have hLl : (BL k l i).length = l.length := DC hi
  have hgi := HB hlt hLi
  have hsf := HA (k := k) hlt
  have hroom := Cp hlt
  have htake := Df hlt
  have hle := JR l (i + 1)
  have e := Ep nm vs (BL k l i) hLi .top
  rw [hgi, JG] at e
  have hel := Lp (nm := nm) (vs := vs) hLi
  rw [hgi, NJ] at hel
  have hr := Er nm vs (BL k l i)
  have hlen : (ovL nm vs 0 (BL k l i)).length = l.length := by rw [B2, hLl]
  obtain ⟨x, hx⟩ : ∃ x, x = l[i] := ⟨_, rfl⟩
  obtain ⟨K, hK⟩ : ∃ K, K = k + (A0 (l.take i) : Int) := ⟨_, rfl⟩
  try rw [← hx] at e
  try rw [← hx] at hroom
  try rw [← hx] at htake
  try rw [← hx] at hel
  rw [← hx] at hsf
  rw [← hK] at hsf
  rw [Dv] at hr
  obtain ⟨E, hE⟩ : ∃ E, E = ovL nm vs 0 (BL k l i) := ⟨_, rfl⟩
  have hcount : cnt x = A0 x.nodes := rfl
  rw [hcount] at htake
  have hbx : Ac.bulk x = Ac.bulk x.nodes + 1 := rfl
  have hbx_0 := BA x.nodes
  have hbl := Ag l
  have hKn : k + (A0 (l.take (i + 1)) : Int) = K + (A0 x.nodes : Int) := by rw [htake]; omega
  have hKb : K + (Ac.bulk x : Int) ≤ 4611686018427387904 := by omega
  have hK1 : 1 ≤ K := by omega
  have hmk : ov (sub nm i) vs (mkv K x) = AV.agg [.row (sub (sub nm i) 0) (vs (sub (sub nm i) 0)) x.nodes.length] := by rw [AcL, JG]; simp only [A6]
  have hus : ovL nm vs 0 ((BL k l i).set i (mkv K x)) = E.set i (AV.agg [.row (sub (sub nm i) 0) (vs (sub (sub nm i) 0)) x.nodes.length]) := by rw [HZ, hmk, ← hE]
  rw [← hE] at e hlen hr
  rw [← hK]
  have gs : ∀ a, (E.set i a).getD i .top = a := fun a => by rw [List.getD_eq_getElem?_getD, List.getElem?_set_self (by rw [hlen]; exact hlt)]; rfl
  have ls : ∀ a, (E.set i a).length = l.length := fun a => by rw [List.length_set, hlen]
  obtain ⟨H, hH⟩ : ∃ H, H = oh nm vs (BL k l i) := ⟨_, rfl⟩
  rw [← hH] at hr hel
  have hq : ∀ q, ¬ InT (sub nm i) q → q ≠ nm → An H q = An (oh nm vs (BL k l i)) q := fun q _ _ => by rw [hH]
  rw [show (AVal.n Pat) = 1 from rfl] at hr
  rw [← hH]
  clear hH
  have hl0 := hel
  have hk0 := Aq hl0
  have hn0 : ¬ InT (sub (sub nm i) 0) nm := JF
  have hb0 : (nm == sub (sub nm i) 0) = false := IX
  simp +contextual -dsimp only [↓SD, SU, simprocAttr, hlt, hlen, e, gs, ls, List.set_set, AJ, false_and, hr, hk0, hb0]
  repeat (refine And.intro (by omega) ?_)
  refine As (on (sub (sub nm i) 0) x.nodes) (PU (sub (sub nm i) 0) vs x.nodes _ (by omega) (by omega)) (Dd (by repeat (first | exact hl0 | refine Al hn0 ?_))) ?_
  rintro r hp' ⟨rfl, rfl⟩ H0 hH0
  have hr0 := Ei hH0 hn0 hr
  have hq0 := IW (X := fun q => An (oh nm vs (BL k l i)) q) hH0 (by repeat (first | exact hq | refine DV ?_))
  have hd0 := Cb hH0
  rw [F6]
  simp +contextual -dsimp only [↓SD, SU, simprocAttr, hlt, hlen, e, gs, ls, List.set_set, AJ, false_and, hr0, hb0]
  repeat (refine And.intro (by omega) ?_)
  refine Af.le ⟨i + 1, ⟨hlt, (by first | omega | (simp only; omega))⟩, rfl⟩ (by simp +contextual -dsimp only [↓SD, SU, simprocAttr, Int.natCast_add, hKn]) ?_
  rw [← hsf]
  refine L1 hLi ?_ ?_ ?_
  ·repeat (first | exact hq0 | refine DV ?_)
  ·rw [Dv, hus, Ab8 (by rw [hlen]; exact hlt) e]; exact hr0
  ·rw [NJ]; exact (by repeat (first | exact hd0 | refine Al hn0 ?_))
 ·obtain rfl : i = l.length := by omega
  rw [Gn, Dg]
  have hr := Er nm vs (mkL k l)
  have hs := OVal.self nm vs (mkL k l)
  obtain ⟨H, hH⟩ : ∃ H, H = oh nm vs (mkL k l) := ⟨_, rfl⟩
  rw [← hH]
  simp +contextual -dsimp only [↓SD, SU, simprocAttr, Nat.lt_irrefl, Aa]
  refine Af.post H ?_
  simp +contextual -dsimp only [↓SD, SU, simprocAttr]
  exact ⟨by rw [hH]; exact hs, rfl, by rw [hH]; rfl⟩

set_option maxHeartbeats 1000000 in
theorem TP (l : List Pat) (k : Int) (h0 : 1 ≤ k) (h1 : k + (Ac.bulk l : Int) ≤ 4611686018427387904) : Ak Tryz.prog 75 [.sl ((mkL k l).map av), .int .i64 k] (.int .i64 (k + (A0 l : Int))) := by
 refine Jj.F rfl (by simp; exact ⟨Ao _, Bo _⟩) (Bo _) ?_
 simp +contextual -dsimp only [↓SD, SU, simprocAttr, Jj, Aa, A6]
 refine Am (X := Nat) (fun i => ⟨[(0, .sl ((mkL k l).map av)), (1, .int .i64 (k + (A0 (l.take i) : Int))), (5, .int .i64 i)], []⟩) (fun i => i ≤ l.length) (fun i => l.length - i) 0 (Nat.zero_le _) (by simp +contextual -dsimp only [↓SD, SU, simprocAttr, List.take_zero, DI, Int.natCast_zero, Int.add_zero]) trivial ?_
 rintro i hi
 by_cases hlt : i < l.length
 ·have hroom := Cp hlt
  have htake := Df hlt
  have e := getD_map av (mkL k l) i .top (by rw [A6]; exact hlt)
  rw [H6 k l i hlt] at e
  rw [AcL, Cc] at e
  obtain ⟨x, hx⟩ : ∃ x, x = l[i] := ⟨_, rfl⟩
  obtain ⟨K, hK⟩ : ∃ K, K = k + (A0 (l.take i) : Int) := ⟨_, rfl⟩
  rw [← hx] at hroom htake e
  rw [← hK] at e ⊢
  have hcount : cnt x = A0 x.nodes := rfl
  rw [hcount] at htake
  have hbx : Ac.bulk x = Ac.bulk x.nodes + 1 := rfl
  have hbx_0 := BA x.nodes
  have hbl := Ag l
  have hKn : k + (A0 (l.take (i + 1)) : Int) = K + (A0 x.nodes : Int) := by rw [htake]; omega
  have hKb : K + (Ac.bulk x : Int) ≤ 4611686018427387904 := by omega
  have hK1 : 1 ≤ K := by omega
  simp +contextual -dsimp only [↓SD, SU, simprocAttr, hlt, Aa, A6, e]
  repeat (refine And.intro (by omega) ?_)
  refine Ab _ (Qg x.nodes (K) (by omega) (by omega)) ?_
  have g0 : ¬ K + (A0 x.nodes : Int) < 0 := by omega
  simp +contextual -dsimp only [↓SD, SU, simprocAttr, hlt, Aa, A6, e, g0]
  repeat (refine And.intro (by omega) ?_)
  exact Af.le ⟨i + 1, ⟨hlt, (by first | omega | (simp only; omega))⟩, rfl⟩ (by simp +contextual -dsimp only [↓SD, SU, simprocAttr, Int.natCast_add, hKn]) trivial
 ·obtain rfl : i = l.length := by omega
  rw [Dg]
  simp +contextual -dsimp only [↓SD, SU, simprocAttr, Nat.lt_irrefl, Aa, A6]

end Go.Proofs.YtppjinmlfcokaaaGreat
