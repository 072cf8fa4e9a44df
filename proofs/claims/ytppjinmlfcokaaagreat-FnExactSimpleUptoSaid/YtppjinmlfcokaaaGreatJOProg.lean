/-
 Bb, Ty, Con, Type, Node, Program IN ROWS OF THEIR OWN: copies, marks, by abstract texts. Conditions: none. Printed by genown.py.
-/
import Derived.Test.YtppjinmlfcokaaaGreatJOPat
import Derived.Test.YtppjinmlfcokaaaGreatJGProg
import Derived.Test.YtppjinmlfcokaaaGreatJJ11
set_option linter.unusedVariables false
set_option linter.unusedSimpArgs false
set_option maxRecDepth 100000
namespace Go.Proofs.YtppjinmlfcokaaaGreat
open Go.RowKit Go.Proofs.YtppjinmlfcokaaaGreat.Av Go.Proofs.YtppjinmlfcokaaaGreat.Ml
open Go.Proofs.YtppjinmlfcokaaaGreat.Av.AVal (av)
open OVal (ov oh on)
open Mk (mkv cnt)

instance : OVal Bb := Yi 136 (fun y x hx => by
 rw [AY] at hx
 simp only [AV.cells, List.mem_cons, List.not_mem_nil, or_false] at hx
 rcases hx with rfl | rfl | rfl <;> rfl)

instance : Mk Bb := ⟨fun k x => ⟨k, Ec (k + 1), k + 1 + 1⟩, fun x => 3⟩
theorem R7 (k : Int) (x : Bb) : mkv k x = ⟨k, Ec (k + 1), k + 1 + 1⟩ := rfl
theorem Yp (x : Bb) : cnt x = 3 := rfl
instance : MkB Bb := ⟨fun x => by
 have hbx : Ac.bulk x = Ac.bulk x.var + Ac.bulk x.name + Ac.bulk x.arity + 1 := rfl
 have hbx_0 : Ac.bulk x.var = 1 := rfl
 have hbx_1 : Ac.bulk x.name = x.name.size + 1 := rfl
 have hbx_2 : Ac.bulk x.arity = 1 := rfl
 rw [Yp]
 omega⟩

theorem QT (nm : Nat) (l : List Bb) (hx : Ac.bulk l ≤ 4294967296) : AU Tryz.prog 202 [.sl (l.map av)] [] (BW nm l) := by
 have hl := Ag l
 refine GZ.H rfl ?_
 simp +contextual -dsimp only [↓SD, SU, simprocAttr, GZ, Aa]
 refine ⟨by omega, fun v => ?_⟩
 refine Am (X := Nat × (Nat → Nat)) (fun x => ⟨[(0, .sl (l.map av)), (3, .row 7 v l.length), (4, .int .i64 x.1)], (7, ⟨v, false, 136, 3, FI l (AV.agg [.int .i64 0, .str (bs []), .int .i64 0]) x.1⟩) :: []⟩) (fun x => x.1 ≤ l.length) (fun x => l.length - x.1) (0, fun _ => 0) (Nat.zero_le _) (by simp +contextual -dsimp only [↓SD, SU, simprocAttr]) (by simp +contextual -dsimp only [↓SD, SU, simprocAttr, Ea]) ?_
 rintro ⟨k, vs⟩ hk
 dsimp only at hk ⊢
 by_cases hlt : k < l.length
 ·have e := getD_map av l k .top hlt
  have hbk : Ac.bulk l[k] ≤ 4294967296 := by have := AG (List.getElem_mem hlt); omega
  have e1 := Ct (AV.agg [.int .i64 0, .str (bs []), .int .i64 0]) hk
  have e2 := EV (AV.agg [.int .i64 0, .str (bs []), .int .i64 0]) hlt .top
  have e3 := EU (z := (AV.agg [.int .i64 0, .str (bs []), .int .i64 0])) hlt rfl
  rw [AY] at e3
  simp +contextual -dsimp only [↓SD, SU, simprocAttr, Aa, hlt, e, AY]
  have C := N3 l[k] hbk
  rw [AY] at C
  refine Ab _ C ?_
  simp +contextual -dsimp only [↓SD, SU, simprocAttr, Aa, hlt, e, AY, e1, e2, e3]
  refine ⟨by omega, Af.le ⟨(k + 1, vs), ⟨hlt, (by first | omega | (simp only; omega))⟩, rfl⟩ (by simp +contextual -dsimp only [↓SD, SU, simprocAttr, Int.natCast_add]) (by simp +contextual -dsimp only [↓SD, SU, simprocAttr, e2, e3])⟩
 ·obtain rfl : k = l.length := by omega
  simp +contextual -dsimp only [↓SD, SU, simprocAttr, Aa, Nat.lt_irrefl, Eb]
  refine Af.ren 2 7 nm (v := v) (n := l.length) rfl AZ rfl fun v' => ?_
  refine Af.post (oh nm (fun _ => v') l) ?_
  rw [ML (fun _ _ _ => rfl) (fun _ _ _ => rfl)]
  simp +contextual -dsimp only [↓SD, SU, simprocAttr, AZ, FG, Nf]
  exact ⟨rfl, _, rfl, (ML (fun _ _ _ => rfl) (fun _ _ _ => rfl) nm (fun _ => v') l).symm⟩

set_option maxHeartbeats 1000000 in
theorem OP (nm : Nat) (vs : Nat → Nat) (l : List Bb) (k : Int) (h0 : 1 ≤ k) (h1 : k + (Ac.bulk l : Int) ≤ 4611686018427387904) : AU Tryz.prog 136 [ov nm vs l, .int .i64 k] (oh nm vs l) (GS nm vs k l) := by
 refine G1.H rfl ?_
 simp +contextual -dsimp only [↓SD, SU, simprocAttr, G1, AJ]
 refine Am (X := Nat) (fun i => ⟨[(0, .row nm (vs nm) l.length), (1, .int .i64 (k + (A0 (l.take i) : Int))), (5, .int .i64 i)], oh nm vs (BL k l i)⟩) (fun i => i ≤ l.length) (fun i => l.length - i) 0 (Nat.zero_le _) (by simp +contextual -dsimp only [↓SD, SU, simprocAttr, List.take_zero, DI, Int.natCast_zero, Int.add_zero]) (by rw [Gm]; exact OVal.self _ _ _) ?_
 rintro i hi
 by_cases hlt : i < l.length
 ·have hLi : i < (BL k l i).length := by rw [DC hi]; exact hlt
  have hLl : (BL k l i).length = l.length := DC hi
  have hgi := HB hlt hLi
  have hsf := HA (k := k) hlt
  have hroom := Cp hlt
  have htake := Df hlt
  have hle := JR l (i + 1)
  have e := Ep nm vs (BL k l i) hLi .top
  rw [hgi, show ∀ y : Bb, ov (sub nm i) vs y = av y from fun _ => rfl, AY] at e
  have hr := Er nm vs (BL k l i)
  have hlen : (ovL nm vs 0 (BL k l i)).length = l.length := by rw [B2, hLl]
  obtain ⟨x, hx⟩ : ∃ x, x = l[i] := ⟨_, rfl⟩
  obtain ⟨K, hK⟩ : ∃ K, K = k + (A0 (l.take i) : Int) := ⟨_, rfl⟩
  try rw [← hx] at e
  try rw [← hx] at hroom
  try rw [← hx] at htake
  rw [← hx] at hsf
  rw [← hK] at hsf
  rw [Dv] at hr
  obtain ⟨E, hE⟩ : ∃ E, E = ovL nm vs 0 (BL k l i) := ⟨_, rfl⟩
  have hcount : cnt x = 3 := rfl
  rw [hcount] at htake
  have hbx : Ac.bulk x = Ac.bulk x.var + Ac.bulk x.name + Ac.bulk x.arity + 1 := rfl
  have hbx_0 : Ac.bulk x.var = 1 := rfl
  have hbx_1 : Ac.bulk x.name = x.name.size + 1 := rfl
  have hbx_2 : Ac.bulk x.arity = 1 := rfl
  have hbl := Ag l
  have hKn : k + (A0 (l.take (i + 1)) : Int) = K + 1 + 1 + 1 := by rw [htake]; omega
  have hKb : K + (Ac.bulk x : Int) ≤ 4611686018427387904 := by omega
  have hK1 : 1 ≤ K := by omega
  have hmk : ov (sub nm i) vs (mkv K x) = AV.agg [.int .i64 (K), .str (Ec (K + 1)), .int .i64 (K + 1 + 1)] := by rw [show ∀ y : Bb, ov (sub nm i) vs y = av y from fun _ => rfl, R7, AY]
  have hus : ovL nm vs 0 ((BL k l i).set i (mkv K x)) = E.set i (AV.agg [.int .i64 (K), .str (Ec (K + 1)), .int .i64 (K + 1 + 1)]) := by rw [HZ, hmk, ← hE]
  rw [← hE] at e hlen hr
  rw [← hK]
  have gs : ∀ a, (E.set i a).getD i .top = a := fun a => by rw [List.getD_eq_getElem?_getD, List.getElem?_set_self (by rw [hlen]; exact hlt)]; rfl
  have ls : ∀ a, (E.set i a).length = l.length := fun a => by rw [List.length_set, hlen]
  obtain ⟨H, hH⟩ : ∃ H, H = oh nm vs (BL k l i) := ⟨_, rfl⟩
  rw [← hH] at hr
  have hq : ∀ q, ¬ InT (sub nm i) q → q ≠ nm → An H q = An (oh nm vs (BL k l i)) q := fun q _ _ => by rw [hH]
  rw [show (AVal.n Bb) = 3 from rfl] at hr
  rw [← hH]
  clear hH
  simp +contextual -dsimp only [↓SD, SU, simprocAttr, hlt, hlen, e, gs, ls, List.set_set, AJ, false_and, hr]
  repeat (refine And.intro (by omega) ?_)
  refine Ab _ (Dm (K + 1) (by omega) (by omega)) ?_
  simp +contextual -dsimp only [↓SD, SU, simprocAttr, hlt, hlen, e, gs, ls, List.set_set, AJ, false_and, hr]
  repeat (refine And.intro (by omega) ?_)
  refine Af.le ⟨i + 1, ⟨hlt, (by first | omega | (simp only; omega))⟩, rfl⟩ (by simp +contextual -dsimp only [↓SD, SU, simprocAttr, Int.natCast_add, hKn]) ?_
  rw [← hsf]
  refine L1 hLi ?_ ?_ ?_
  ·repeat (first | exact hq | refine DV ?_)
  ·rw [Dv, hus]; first | exact AZ | exact hr
  ·exact trivial
 ·obtain rfl : i = l.length := by omega
  rw [Gn, Dg]
  have hr := Er nm vs (mkL k l)
  have hs := OVal.self nm vs (mkL k l)
  obtain ⟨H, hH⟩ : ∃ H, H = oh nm vs (mkL k l) := ⟨_, rfl⟩
  rw [← hH]
  simp +contextual -dsimp only [↓SD, SU, simprocAttr, Nat.lt_irrefl, Aa]
  refine Af.post H ?_
  simp +contextual -dsimp only [↓SD, SU, simprocAttr]
  exact ⟨by rw [hH]; exact hs, rfl, by rw [hH]; rfl⟩

set_option maxHeartbeats 1000000 in
theorem OQ (l : List Bb) (k : Int) (h0 : 1 ≤ k) (h1 : k + (Ac.bulk l : Int) ≤ 4611686018427387904) : Ak Tryz.prog 138 [.sl ((mkL k l).map av), .int .i64 k] (.int .i64 (k + (A0 l : Int))) := by
 refine G3.F rfl (by simp; exact ⟨Ao _, Bo _⟩) (Bo _) ?_
 simp +contextual -dsimp only [↓SD, SU, simprocAttr, G3, Aa, A6]
 refine Am (X := Nat) (fun i => ⟨[(0, .sl ((mkL k l).map av)), (1, .int .i64 (k + (A0 (l.take i) : Int))), (5, .int .i64 i)], []⟩) (fun i => i ≤ l.length) (fun i => l.length - i) 0 (Nat.zero_le _) (by simp +contextual -dsimp only [↓SD, SU, simprocAttr, List.take_zero, DI, Int.natCast_zero, Int.add_zero]) trivial ?_
 rintro i hi
 by_cases hlt : i < l.length
 ·have hroom := Cp hlt
  have htake := Df hlt
  have e := getD_map av (mkL k l) i .top (by rw [A6]; exact hlt)
  rw [H6 k l i hlt] at e
  rw [R7, AY] at e
  obtain ⟨x, hx⟩ : ∃ x, x = l[i] := ⟨_, rfl⟩
  obtain ⟨K, hK⟩ : ∃ K, K = k + (A0 (l.take i) : Int) := ⟨_, rfl⟩
  (rw [← hx] at hroom htake; try rw [← hx] at e)
  rw [← hK] at e ⊢
  have hcount : cnt x = 3 := rfl
  rw [hcount] at htake
  have hbx : Ac.bulk x = Ac.bulk x.var + Ac.bulk x.name + Ac.bulk x.arity + 1 := rfl
  have hbx_0 : Ac.bulk x.var = 1 := rfl
  have hbx_1 : Ac.bulk x.name = x.name.size + 1 := rfl
  have hbx_2 : Ac.bulk x.arity = 1 := rfl
  have hbl := Ag l
  have hKn : k + (A0 (l.take (i + 1)) : Int) = K + 1 + 1 + 1 := by rw [htake]; omega
  have hKb : K + (Ac.bulk x : Int) ≤ 4611686018427387904 := by omega
  have hK1 : 1 ≤ K := by omega
  simp +contextual -dsimp only [↓SD, SU, simprocAttr, hlt, Aa, A6, beq_self_eq_true, e]
  repeat (refine And.intro (by omega) ?_)
  refine Ab _ (Dm (K + 1) (by omega) (by omega)) ?_
  simp +contextual -dsimp only [↓SD, SU, simprocAttr, hlt, Aa, A6, beq_self_eq_true, e]
  repeat (refine And.intro (by omega) ?_)
  exact Af.le ⟨i + 1, ⟨hlt, (by first | omega | (simp only; omega))⟩, rfl⟩ (by simp +contextual -dsimp only [↓SD, SU, simprocAttr, Int.natCast_add, hKn]) trivial
 ·obtain rfl : i = l.length := by omega
  rw [Dg]
  simp +contextual -dsimp only [↓SD, SU, simprocAttr, Nat.lt_irrefl, Aa, A6]

instance : OVal Ty where
 ty := 75
 ov nm vs x := .agg [ov (sub nm 0) vs x.items]
 oh nm vs x := oh (sub nm 0) vs x.items
 on nm x := on (sub nm 0) x.items
 names nm vs x := OVal.names _ _ _
 inn nm x k h := (OVal.inn _ _ _ h).up
 self nm vs x := OVal.self _ _ _
 FL nm vs vs' x h := by
  obtain ⟨a0, b0⟩ := OVal.FL (sub nm 0) vs vs' x.items (fun k hk => h k hk.up)
  simp only [a0, b0, and_self]
 HE nm vs x hp h := by
  have h0 := OVal.HE (sub nm 0) vs x.items hp h
  show AV.agg [(ov (sub nm 0) vs x.items).pur (B3 (on (sub nm 0) x.items) hp)] = av x
  rw [h0]; rfl
 dep nm vs x hp hp' h := by
  have h0 := OVal.dep (sub nm 0) vs x.items hp hp' (fun k hk => h k hk.up)
  show AV.agg [(ov (sub nm 0) vs x.items).pur hp] = AV.agg [(ov (sub nm 0) vs x.items).pur hp']
  rw [h0]
 free nm vs x p h := by exact OVal.free _ _ _ p h
 Kq nm vs x y hx := by
  simp only [AV.cells, List.mem_cons, List.not_mem_nil, or_false] at hx
  subst hx <;> rfl
 ok _ _ _ := rfl
 agg _ _ _ := rfl
 len _ _ _ := rfl
theorem AeA (nm : Nat) (vs : Nat → Nat) (x : Ty) : ov nm vs x = .agg [.row (sub nm 0) (vs (sub nm 0)) x.items.length] := eqq rfl
theorem AeD (nm : Nat) (vs : Nat → Nat) (x : Ty) : oh nm vs x = oh (sub nm 0) vs x.items := rfl

instance : Mk Ty := ⟨fun k x => ⟨mkL (k) x.items⟩, fun x => A0 x.items⟩
theorem Aff (x : Ty) : cnt x = A0 x.items := rfl
instance : MkB Ty := ⟨fun x => by
 have hbx : Ac.bulk x = Ac.bulk x.items + 1 := rfl
 have hbx_0 := BA x.items
 rw [Aff]
 omega⟩

theorem Ab0 (nm : Nat) (x : Ty) (hx : Ac.bulk x ≤ 4294967296) : AU Tryz.prog 186 [av x] [] (BW nm x) := by
 have hb : Ac.bulk x.items + 1 ≤ 4294967296 := hx
 refine KJ.H rfl ?_
 simp +contextual -dsimp only [↓SD, SU, simprocAttr, KJ, Nv]
 (repeat' (first | intro _ | refine And.intro ?_ ?_))
 refine As [] (QT (sub nm 0) x.items (by omega)) (by simp +contextual -dsimp only [↓SD, SU, simprocAttr]) ?_
 rintro r hp' ⟨v0, rfl, rfl⟩ H0 hH0
 rw [Bs] at hH0
 have hold0 := EK hH0
 have ho0_0 : Ax H0 (oh (sub nm 0) v0 x.items) := by rw [hH0]; exact Bz (OVal.self _ _ _)
 have hr0_0 := Aq ho0_0
 simp +contextual -dsimp only [↓SD, SU, simprocAttr, AJ, AQ, hold0, hr0_0]
 refine Af.post (oh nm v0 x) ?_
 simp +contextual -dsimp only [↓SD, SU, simprocAttr, AQ, hold0, false_and, hr0_0]
 refine ⟨by rw [AeD]; exact (by repeat (first | exact ho0_0 | refine Eg ?_ (by omega))), v0, ?_, rfl⟩
 rw [AeA]

instance : OVal Con where
 ty := 77
 ov nm vs x := .agg [.str x.name, .bool x.has, ov (sub nm 0) vs x.arg.items]
 oh nm vs x := oh (sub nm 0) vs x.arg.items
 on nm x := on (sub nm 0) x.arg.items
 names nm vs x := OVal.names _ _ _
 inn nm x k h := (OVal.inn _ _ _ h).up
 self nm vs x := OVal.self _ _ _
 FL nm vs vs' x h := by
  obtain ⟨a0, b0⟩ := OVal.FL (sub nm 0) vs vs' x.arg.items (fun k hk => h k hk.up)
  simp only [a0, b0, and_self]
 HE nm vs x hp h := by
  have h0 := OVal.HE (sub nm 0) vs x.arg.items hp h
  show AV.agg [.str x.name, .bool x.has, (ov (sub nm 0) vs x.arg.items).pur (B3 (on (sub nm 0) x.arg.items) hp)] = av x
  rw [h0]; rfl
 dep nm vs x hp hp' h := by
  have h0 := OVal.dep (sub nm 0) vs x.arg.items hp hp' (fun k hk => h k hk.up)
  show AV.agg [.str x.name, .bool x.has, (ov (sub nm 0) vs x.arg.items).pur hp] = AV.agg [.str x.name, .bool x.has, (ov (sub nm 0) vs x.arg.items).pur hp']
  rw [h0]
 free nm vs x p h := by exact OVal.free _ _ _ p h
 Kq nm vs x y hx := by
  simp only [AV.cells, List.mem_cons, List.not_mem_nil, or_false] at hx
  rcases hx with rfl | rfl | rfl <;> rfl
 ok _ _ _ := rfl
 agg _ _ _ := rfl
 len _ _ _ := rfl
theorem NH (nm : Nat) (vs : Nat → Nat) (x : Con) : ov nm vs x = .agg [.str x.name, .bool x.has, .row (sub nm 0) (vs (sub nm 0)) x.arg.items.length] := eqq rfl
theorem Tx (nm : Nat) (vs : Nat → Nat) (x : Con) : oh nm vs x = oh (sub nm 0) vs x.arg.items := rfl

instance : Mk Con := ⟨fun k x => ⟨Ec (k), decide ((k + 1).tmod 3 = 0), ⟨mkL (k + 1 + 1) x.arg.items⟩⟩, fun x => 2 + A0 x.arg.items⟩
theorem AcM (k : Int) (x : Con) : mkv k x = ⟨Ec (k), decide ((k + 1).tmod 3 = 0), ⟨mkL (k + 1 + 1) x.arg.items⟩⟩ := rfl
theorem Aen (x : Con) : cnt x = 2 + A0 x.arg.items := rfl
instance : MkB Con := ⟨fun x => by
 have hbx : Ac.bulk x = Ac.bulk x.name + Ac.bulk x.has + Ac.bulk x.arg + 1 := rfl
 have hbx_0 : Ac.bulk x.name = x.name.size + 1 := rfl
 have hbx_1 : Ac.bulk x.has = 1 := rfl
 have hbx_2 : Ac.bulk x.arg = Ac.bulk x.arg.items + 1 := rfl
 have hbx_2_0 := BA x.arg.items
 rw [Aen]
 omega⟩

theorem AaU (nm : Nat) (x : Con) (hx : Ac.bulk x ≤ 4294967296) : AU Tryz.prog 150 [av x] [] (BW nm x) := by
 have hb : Ac.bulk x.name + Ac.bulk x.has + Ac.bulk x.arg + 1 ≤ 4294967296 := hx
 refine Kc.H rfl ?_
 simp +contextual -dsimp only [↓SD, SU, simprocAttr, Kc, Cq, Nv]
 (repeat' (first | intro _ | refine And.intro ?_ ?_))
 have C0 := Ab0 nm x.arg (by omega)
 rw [Nv] at C0
 refine As [] C0 (by simp +contextual -dsimp only [↓SD, SU, simprocAttr]) ?_
 rintro r hp' ⟨v0, rfl, rfl⟩ H0 hH0
 rw [AeD] at hH0
 rw [Bs] at hH0
 have hold0 := EK hH0
 have ho0_0 : Ax H0 (oh (sub nm 0) v0 x.arg.items) := by rw [hH0]; exact Bz (OVal.self _ _ _)
 have hr0_0 := Aq ho0_0
 simp +contextual -dsimp only [↓SD, SU, simprocAttr, AJ, AeA, Nv, AQ, hold0, hr0_0]
 refine Af.post (oh nm v0 x) ?_
 simp +contextual -dsimp only [↓SD, SU, simprocAttr, AQ, hold0, false_and, hr0_0]
 refine ⟨by rw [Tx]; exact (by repeat (first | exact ho0_0 | refine Eg ?_ (by omega))), v0, ?_, rfl⟩
 rw [NH]

theorem XD (nm : Nat) (l : List Con) (hx : Ac.bulk l ≤ 4294967296) : AU Tryz.prog 89 [.sl (l.map av)] [] (BW nm l) := by
 have hl := Ag l
 refine Je.H rfl ?_
 simp +contextual -dsimp only [↓SD, SU, simprocAttr, Je, Aa]
 refine ⟨by omega, fun v => ?_⟩
 refine Am (X := Nat × (Nat → Nat)) (fun x => ⟨[(0, .sl (l.map av)), (3, .row 7 v l.length), (4, .int .i64 x.1)], (7, ⟨v, false, 77, 3, Co nm x.2 l (AV.agg [.str (bs []), .bool false, .Aj]) x.1⟩) :: ohL nm x.2 0 (l.take x.1)⟩) (fun x => x.1 ≤ l.length) (fun x => l.length - x.1) (0, fun _ => 0) (Nat.zero_le _) (by simp +contextual -dsimp only [↓SD, SU, simprocAttr]) (by simp +contextual -dsimp only [↓SD, SU, simprocAttr, HR, List.take_zero, EL]) ?_
 rintro ⟨k, vs⟩ hk
 dsimp only at hk ⊢
 by_cases hlt : k < l.length
 ·have e := getD_map av l k .top hlt
  have hbk : Ac.bulk l[k] ≤ 4294967296 := by have := AG (List.getElem_mem hlt); omega
  have e1 := Jv (nm := nm) (vs := vs) (AV.agg [.str (bs []), .bool false, .Aj]) hk
  have e2 := Jw (nm := nm) (vs := vs) (AV.agg [.str (bs []), .bool false, .Aj]) hlt .top
  obtain ⟨H, hH⟩ : ∃ H, H = ((7, ⟨v, false, 77, 3, Co nm vs l (AV.agg [.str (bs []), .bool false, .Aj]) k⟩) :: ohL nm vs 0 (l.take k) : Hp) := ⟨_, rfl⟩
  have h7 : An H 7 = some ⟨v, false, 77, 3, Co nm vs l (AV.agg [.str (bs []), .bool false, .Aj]) k⟩ := by rw [hH]; exact AZ
  rw [← hH]
  simp +contextual -dsimp only [↓SD, SU, simprocAttr, Aa, hlt, e, Cq, h7]
  have C := AaU (sub nm k) l[k] hbk
  rw [Cq] at C
  refine As [] C (by simp +contextual -dsimp only [↓SD, SU, simprocAttr]) ?_
  rintro r hp' ⟨v1, rfl, rfl⟩ H1 hH1
  have h71 : An H1 7 = some ⟨v, false, 77, 3, Co nm vs l (AV.agg [.str (bs []), .bool false, .Aj]) k⟩ := by
   rw [hH1, Bs, BR (FE fun h' => by have := h'.ge; omega)]; exact h7
  have e3 := Ju (nm := nm) (vs := v1) (vs' := vs) (z := (AV.agg [.str (bs []), .bool false, .Aj])) hlt
  rw [NH] at e3
  simp +contextual -dsimp only [↓SD, SU, simprocAttr, Aa, hlt, e, Cq, NH, h71, e1, e2, e3]
  rw [hH] at hH1
  refine ⟨by omega, Af.le ⟨(k + 1, glue (sub nm k) v1 vs), ⟨hlt, (by first | omega | (simp only; omega))⟩, rfl⟩ (by simp +contextual -dsimp only [↓SD, SU, simprocAttr, Int.natCast_add]) ?_⟩
  exact Np hlt (by omega) hH1
 ·obtain rfl : k = l.length := by omega
  rw [List.take_length]
  have ef : Co nm vs l (AV.agg [.str (bs []), .bool false, .Aj]) l.length = ovL nm vs 0 l := by simp [Co]
  rw [ef]
  obtain ⟨H, hH⟩ : ∃ H, H = ((7, ⟨v, false, 77, 3, ovL nm vs 0 l⟩) :: ohL nm vs 0 l : Hp) := ⟨_, rfl⟩
  rw [← hH]
  simp +contextual -dsimp only [↓SD, SU, simprocAttr, Aa, Nat.lt_irrefl]
  rw [hH]
  refine Af.ren 2 7 nm (v := v) (n := l.length) rfl AZ rfl fun v' => ?_
  obtain ⟨H', hH'⟩ : ∃ H', H' = ((nm, ⟨v', false, 77, 3, ovL nm vs 0 l⟩) :: B1 [7] ((7, ⟨v, false, 77, 3, ovL nm vs 0 l⟩) :: ohL nm vs 0 l) : Hp) := ⟨_, rfl⟩
  have hr : An H' nm = some ⟨v', false, 77, 3, ovL nm vs 0 l⟩ := by rw [hH']; exact AZ
  have hle := Iw (α := Con) (nm := nm) (j := 7) (l := l) (vs := vs) (by omega) hH'
  dsimp only
  rw [← hH']
  refine Af.post (oh nm (glue nm (fun k => if k = nm then v' else vs k) vs) l) ?_
  simp +contextual -dsimp only [↓SD, SU, simprocAttr, hr]
  exact ⟨hle, _, (FU l).1.symm, rfl⟩

set_option maxHeartbeats 1000000 in
theorem TD (nm : Nat) (vs : Nat → Nat) (l : List Con) (k : Int) (h0 : 1 ≤ k) (h1 : k + (Ac.bulk l : Int) ≤ 4611686018427387904) : AU Tryz.prog 70 [ov nm vs l, .int .i64 k] (oh nm vs l) (GS nm vs k l) := by
 refine Ji.H rfl ?_
 simp +contextual -dsimp only [↓SD, SU, simprocAttr, Ji, AJ]
 refine Am (X := Nat) (fun i => ⟨[(0, .row nm (vs nm) l.length), (1, .int .i64 (k + (A0 (l.take i) : Int))), (5, .int .i64 i)], oh nm vs (BL k l i)⟩) (fun i => i ≤ l.length) (fun i => l.length - i) 0 (Nat.zero_le _) (by simp +contextual -dsimp only [↓SD, SU, simprocAttr, List.take_zero, DI, Int.natCast_zero, Int.add_zero]) (by rw [Gm]; exact OVal.self _ _ _) ?_
 rintro i hi
 by_cases hlt : i < l.length
 ·have hLi : i < (BL k l i).length := by rw [DC hi]; exact hlt
  have hLl : (BL k l i).length = l.length := DC hi
  have hgi := HB hlt hLi
  have hsf := HA (k := k) hlt
  have hroom := Cp hlt
  have htake := Df hlt
  have hle := JR l (i + 1)
  have e := Ep nm vs (BL k l i) hLi .top
  rw [hgi, NH] at e
  have hel := Lp (nm := nm) (vs := vs) hLi
  rw [hgi, Tx] at hel
  have hr := Er nm vs (BL k l i)
  have hlen : (ovL nm vs 0 (BL k l i)).length = l.length := by rw [B2, hLl]
  obtain ⟨x, hx⟩ : ∃ x, x = l[i] := ⟨_, rfl⟩
  obtain ⟨K, hK⟩ : ∃ K, K = k + (A0 (l.take i) : Int) := ⟨_, rfl⟩
  try rw [← hx] at e
  try rw [← hx] at hroom
  try rw [← hx] at htake
  try rw [← hx] at hel
  rw [← hx] at hsf
  rw [← hK] at hsf
  rw [Dv] at hr
  obtain ⟨E, hE⟩ : ∃ E, E = ovL nm vs 0 (BL k l i) := ⟨_, rfl⟩
  have hcount : cnt x = 2 + A0 x.arg.items := rfl
  rw [hcount] at htake
  have hbx : Ac.bulk x = Ac.bulk x.name + Ac.bulk x.has + Ac.bulk x.arg + 1 := rfl
  have hbx_0 : Ac.bulk x.name = x.name.size + 1 := rfl
  have hbx_1 : Ac.bulk x.has = 1 := rfl
  have hbx_2 : Ac.bulk x.arg = Ac.bulk x.arg.items + 1 := rfl
  have hbx_2_0 := BA x.arg.items
  have hbl := Ag l
  have hKn : k + (A0 (l.take (i + 1)) : Int) = K + 1 + 1 + (A0 x.arg.items : Int) := by rw [htake]; omega
  have hKb : K + (Ac.bulk x : Int) ≤ 4611686018427387904 := by omega
  have hK1 : 1 ≤ K := by omega
  have htm0 : 0 ≤ (K + 1).tmod 3 ∧ (K + 1).tmod 3 ≤ 2 := by rw [Int.tmod_eq_emod_of_nonneg (by omega)]; omega
  have hmk : ov (sub nm i) vs (mkv K x) = AV.agg [.str (Ec (K)), .bool (decide ((K + 1).tmod 3 = 0)), .row (sub (sub nm i) 0) (vs (sub (sub nm i) 0)) x.arg.items.length] := by rw [AcM, NH]; simp only [A6]
  have hus : ovL nm vs 0 ((BL k l i).set i (mkv K x)) = E.set i (AV.agg [.str (Ec (K)), .bool (decide ((K + 1).tmod 3 = 0)), .row (sub (sub nm i) 0) (vs (sub (sub nm i) 0)) x.arg.items.length]) := by rw [HZ, hmk, ← hE]
  rw [← hE] at e hlen hr
  rw [← hK]
  have gs : ∀ a, (E.set i a).getD i .top = a := fun a => by rw [List.getD_eq_getElem?_getD, List.getElem?_set_self (by rw [hlen]; exact hlt)]; rfl
  have ls : ∀ a, (E.set i a).length = l.length := fun a => by rw [List.length_set, hlen]
  obtain ⟨H, hH⟩ : ∃ H, H = oh nm vs (BL k l i) := ⟨_, rfl⟩
  rw [← hH] at hr hel
  have hq : ∀ q, ¬ InT (sub nm i) q → q ≠ nm → An H q = An (oh nm vs (BL k l i)) q := fun q _ _ => by rw [hH]
  rw [show (AVal.n Con) = 3 from rfl] at hr
  rw [← hH]
  clear hH
  have hl0 := hel
  have hk0 := Aq hl0
  have hn0 : ¬ InT (sub (sub nm i) 0) nm := JF
  have hb0 : (nm == sub (sub nm i) 0) = false := IX
  simp +contextual -dsimp only [↓SD, SU, simprocAttr, hlt, hlen, e, gs, ls, List.set_set, AJ, false_and, hr, hk0, hb0]
  repeat (refine And.intro (by omega) ?_)
  refine Ab _ (Dm (K) (by omega) (by omega)) ?_
  simp +contextual -dsimp only [↓SD, SU, simprocAttr, hlt, hlen, e, gs, ls, List.set_set, AJ, false_and, hr, hk0, hb0]
  repeat (refine And.intro (by omega) ?_)
  refine As (on (sub (sub nm i) 0) x.arg.items) (OP (sub (sub nm i) 0) vs x.arg.items _ (by omega) (by omega)) (Dd (by repeat (first | exact hl0 | refine Al hn0 ?_))) ?_
  rintro r hp' ⟨rfl, rfl⟩ H0 hH0
  have hr0 := Ei hH0 hn0 AZ
  have hq0 := IW (X := fun q => An (oh nm vs (BL k l i)) q) hH0 (by repeat (first | exact hq | refine DV ?_))
  have hd0 := Cb hH0
  rw [F6]
  simp +contextual -dsimp only [↓SD, SU, simprocAttr, hlt, hlen, e, gs, ls, List.set_set, AJ, false_and, hr0, hb0]
  repeat (refine And.intro (by omega) ?_)
  refine Af.le ⟨i + 1, ⟨hlt, (by first | omega | (simp only; omega))⟩, rfl⟩ (by simp +contextual -dsimp only [↓SD, SU, simprocAttr, Int.natCast_add, hKn]) ?_
  rw [← hsf]
  refine L1 hLi ?_ ?_ ?_
  ·repeat (first | exact hq0 | refine DV ?_)
  ·rw [Dv, hus]; first | exact AZ | exact hr0
  ·rw [Tx]; exact (by repeat (first | exact hd0 | refine Al hn0 ?_))
 ·obtain rfl : i = l.length := by omega
  rw [Gn, Dg]
  have hr := Er nm vs (mkL k l)
  have hs := OVal.self nm vs (mkL k l)
  obtain ⟨H, hH⟩ : ∃ H, H = oh nm vs (mkL k l) := ⟨_, rfl⟩
  rw [← hH]
  simp +contextual -dsimp only [↓SD, SU, simprocAttr, Nat.lt_irrefl, Aa]
  refine Af.post H ?_
  simp +contextual -dsimp only [↓SD, SU, simprocAttr]
  exact ⟨by rw [hH]; exact hs, rfl, by rw [hH]; rfl⟩

set_option maxHeartbeats 1000000 in
theorem TQ (l : List Con) (k : Int) (h0 : 1 ≤ k) (h1 : k + (Ac.bulk l : Int) ≤ 4611686018427387904) : Ak Tryz.prog 73 [.sl ((mkL k l).map av), .int .i64 k] (.int .i64 (k + (A0 l : Int))) := by
 refine Jl.F rfl (by simp; exact ⟨Ao _, Bo _⟩) (Bo _) ?_
 simp +contextual -dsimp only [↓SD, SU, simprocAttr, Jl, Aa, A6]
 refine Am (X := Nat) (fun i => ⟨[(0, .sl ((mkL k l).map av)), (1, .int .i64 (k + (A0 (l.take i) : Int))), (5, .int .i64 i)], []⟩) (fun i => i ≤ l.length) (fun i => l.length - i) 0 (Nat.zero_le _) (by simp +contextual -dsimp only [↓SD, SU, simprocAttr, List.take_zero, DI, Int.natCast_zero, Int.add_zero]) trivial ?_
 rintro i hi
 by_cases hlt : i < l.length
 ·have hroom := Cp hlt
  have htake := Df hlt
  have e := getD_map av (mkL k l) i .top (by rw [A6]; exact hlt)
  rw [H6 k l i hlt] at e
  rw [AcM, Cq] at e
  obtain ⟨x, hx⟩ : ∃ x, x = l[i] := ⟨_, rfl⟩
  obtain ⟨K, hK⟩ : ∃ K, K = k + (A0 (l.take i) : Int) := ⟨_, rfl⟩
  (rw [← hx] at hroom htake; try rw [← hx] at e)
  rw [← hK] at e ⊢
  have hcount : cnt x = 2 + A0 x.arg.items := rfl
  rw [hcount] at htake
  have hbx : Ac.bulk x = Ac.bulk x.name + Ac.bulk x.has + Ac.bulk x.arg + 1 := rfl
  have hbx_0 : Ac.bulk x.name = x.name.size + 1 := rfl
  have hbx_1 : Ac.bulk x.has = 1 := rfl
  have hbx_2 : Ac.bulk x.arg = Ac.bulk x.arg.items + 1 := rfl
  have hbx_2_0 := BA x.arg.items
  have hbl := Ag l
  have hKn : k + (A0 (l.take (i + 1)) : Int) = K + 1 + 1 + (A0 x.arg.items : Int) := by rw [htake]; omega
  have hKb : K + (Ac.bulk x : Int) ≤ 4611686018427387904 := by omega
  have hK1 : 1 ≤ K := by omega
  have htm0 : 0 ≤ (K + 1).tmod 3 ∧ (K + 1).tmod 3 ≤ 2 := by rw [Int.tmod_eq_emod_of_nonneg (by omega)]; omega
  simp +contextual -dsimp only [↓SD, SU, simprocAttr, hlt, Aa, A6, beq_self_eq_true, e]
  repeat (refine And.intro (by omega) ?_)
  refine Ab _ (Dm (K) (by omega) (by omega)) ?_
  simp +contextual -dsimp only [↓SD, SU, simprocAttr, hlt, Aa, A6, beq_self_eq_true, e]
  repeat (refine And.intro (by omega) ?_)
  refine Ab _ (OQ x.arg.items (K + 1 + 1) (by omega) (by omega)) ?_
  have g0 : ¬ K + 1 + 1 + (A0 x.arg.items : Int) < 0 := by omega
  simp +contextual -dsimp only [↓SD, SU, simprocAttr, hlt, Aa, A6, beq_self_eq_true, e, g0]
  repeat (refine And.intro (by omega) ?_)
  exact Af.le ⟨i + 1, ⟨hlt, (by first | omega | (simp only; omega))⟩, rfl⟩ (by simp +contextual -dsimp only [↓SD, SU, simprocAttr, Int.natCast_add, hKn]) trivial
 ·obtain rfl : i = l.length := by omega
  rw [Dg]
  simp +contextual -dsimp only [↓SD, SU, simprocAttr, Nat.lt_irrefl, Aa, A6]

instance : OVal BK where
 ty := 72
 ov nm vs x := .agg [.str x.name, .int .i64 x.params, ov (sub nm 0) vs x.cons]
 oh nm vs x := oh (sub nm 0) vs x.cons
 on nm x := on (sub nm 0) x.cons
 names nm vs x := OVal.names _ _ _
 inn nm x k h := (OVal.inn _ _ _ h).up
 self nm vs x := OVal.self _ _ _
 FL nm vs vs' x h := by
  obtain ⟨a0, b0⟩ := OVal.FL (sub nm 0) vs vs' x.cons (fun k hk => h k hk.up)
  simp only [a0, b0, and_self]
 HE nm vs x hp h := by
  have h0 := OVal.HE (sub nm 0) vs x.cons hp h
  show AV.agg [.str x.name, .int .i64 x.params, (ov (sub nm 0) vs x.cons).pur (B3 (on (sub nm 0) x.cons) hp)] = av x
  rw [h0]; rfl
 dep nm vs x hp hp' h := by
  have h0 := OVal.dep (sub nm 0) vs x.cons hp hp' (fun k hk => h k hk.up)
  show AV.agg [.str x.name, .int .i64 x.params, (ov (sub nm 0) vs x.cons).pur hp] = AV.agg [.str x.name, .int .i64 x.params, (ov (sub nm 0) vs x.cons).pur hp']
  rw [h0]
 free nm vs x p h := by exact OVal.free _ _ _ p h
 Kq nm vs x y hx := by
  simp only [AV.cells, List.mem_cons, List.not_mem_nil, or_false] at hx
  rcases hx with rfl | rfl | rfl <;> rfl
 ok _ _ _ := rfl
 agg _ _ _ := rfl
 len _ _ _ := rfl
theorem IY (nm : Nat) (vs : Nat → Nat) (x : BK) : ov nm vs x = .agg [.str x.name, .int .i64 x.params, .row (sub nm 0) (vs (sub nm 0)) x.cons.length] := eqq rfl
theorem MM (nm : Nat) (vs : Nat → Nat) (x : BK) : oh nm vs x = oh (sub nm 0) vs x.cons := rfl

instance : Mk BK := ⟨fun k x => ⟨Ec (k), k + 1, mkL (k + 1 + 1) x.cons⟩, fun x => 2 + A0 x.cons⟩
theorem VB (k : Int) (x : BK) : mkv k x = ⟨Ec (k), k + 1, mkL (k + 1 + 1) x.cons⟩ := rfl
theorem AbB (x : BK) : cnt x = 2 + A0 x.cons := rfl
instance : MkB BK := ⟨fun x => by
 have hbx : Ac.bulk x = Ac.bulk x.name + Ac.bulk x.params + Ac.bulk x.cons + 1 := rfl
 have hbx_0 : Ac.bulk x.name = x.name.size + 1 := rfl
 have hbx_1 : Ac.bulk x.params = 1 := rfl
 have hbx_2 := BA x.cons
 rw [AbB]
 omega⟩

theorem Xx (nm : Nat) (x : BK) (hx : Ac.bulk x ≤ 4294967296) : AU Tryz.prog 45 [av x] [] (BW nm x) := by
 have hb : Ac.bulk x.name + Ac.bulk x.params + Ac.bulk x.cons + 1 ≤ 4294967296 := hx
 refine I8.H rfl ?_
 simp +contextual -dsimp only [↓SD, SU, simprocAttr, I8, BJ]
 (repeat' (first | intro _ | refine And.intro ?_ ?_))
 refine As [] (XD (sub nm 0) x.cons (by omega)) (by simp +contextual -dsimp only [↓SD, SU, simprocAttr]) ?_
 rintro r hp' ⟨v0, rfl, rfl⟩ H0 hH0
 rw [Bs] at hH0
 have hold0 := EK hH0
 have ho0_0 : Ax H0 (oh (sub nm 0) v0 x.cons) := by rw [hH0]; exact Bz (OVal.self _ _ _)
 have hr0_0 := Aq ho0_0
 simp +contextual -dsimp only [↓SD, SU, simprocAttr, AJ, AQ, hold0, hr0_0]
 refine Af.post (oh nm v0 x) ?_
 simp +contextual -dsimp only [↓SD, SU, simprocAttr, AQ, hold0, false_and, hr0_0]
 refine ⟨by rw [MM]; exact (by repeat (first | exact ho0_0 | refine Eg ?_ (by omega))), v0, ?_, rfl⟩
 rw [IY]

theorem Uh (nm : Nat) (l : List BK) (hx : Ac.bulk l ≤ 4294967296) : AU Tryz.prog 20 [.sl (l.map av)] [] (BW nm l) := by
 have hl := Ag l
 refine Ib.H rfl ?_
 simp +contextual -dsimp only [↓SD, SU, simprocAttr, Ib, Aa]
 refine ⟨by omega, fun v => ?_⟩
 refine Am (X := Nat × (Nat → Nat)) (fun x => ⟨[(0, .sl (l.map av)), (3, .row 7 v l.length), (4, .int .i64 x.1)], (7, ⟨v, false, 72, 3, Co nm x.2 l (AV.agg [.str (bs []), .int .i64 0, .Aj]) x.1⟩) :: ohL nm x.2 0 (l.take x.1)⟩) (fun x => x.1 ≤ l.length) (fun x => l.length - x.1) (0, fun _ => 0) (Nat.zero_le _) (by simp +contextual -dsimp only [↓SD, SU, simprocAttr]) (by simp +contextual -dsimp only [↓SD, SU, simprocAttr, HR, List.take_zero, EL]) ?_
 rintro ⟨k, vs⟩ hk
 dsimp only at hk ⊢
 by_cases hlt : k < l.length
 ·have e := getD_map av l k .top hlt
  have hbk : Ac.bulk l[k] ≤ 4294967296 := by have := AG (List.getElem_mem hlt); omega
  have e1 := Jv (nm := nm) (vs := vs) (AV.agg [.str (bs []), .int .i64 0, .Aj]) hk
  have e2 := Jw (nm := nm) (vs := vs) (AV.agg [.str (bs []), .int .i64 0, .Aj]) hlt .top
  obtain ⟨H, hH⟩ : ∃ H, H = ((7, ⟨v, false, 72, 3, Co nm vs l (AV.agg [.str (bs []), .int .i64 0, .Aj]) k⟩) :: ohL nm vs 0 (l.take k) : Hp) := ⟨_, rfl⟩
  have h7 : An H 7 = some ⟨v, false, 72, 3, Co nm vs l (AV.agg [.str (bs []), .int .i64 0, .Aj]) k⟩ := by rw [hH]; exact AZ
  rw [← hH]
  simp +contextual -dsimp only [↓SD, SU, simprocAttr, Aa, hlt, e, BJ, h7]
  have C := Xx (sub nm k) l[k] hbk
  rw [BJ] at C
  refine As [] C (by simp +contextual -dsimp only [↓SD, SU, simprocAttr]) ?_
  rintro r hp' ⟨v1, rfl, rfl⟩ H1 hH1
  have h71 : An H1 7 = some ⟨v, false, 72, 3, Co nm vs l (AV.agg [.str (bs []), .int .i64 0, .Aj]) k⟩ := by
   rw [hH1, Bs, BR (FE fun h' => by have := h'.ge; omega)]; exact h7
  have e3 := Ju (nm := nm) (vs := v1) (vs' := vs) (z := (AV.agg [.str (bs []), .int .i64 0, .Aj])) hlt
  rw [IY] at e3
  simp +contextual -dsimp only [↓SD, SU, simprocAttr, Aa, hlt, e, BJ, IY, h71, e1, e2, e3]
  rw [hH] at hH1
  refine ⟨by omega, Af.le ⟨(k + 1, glue (sub nm k) v1 vs), ⟨hlt, (by first | omega | (simp only; omega))⟩, rfl⟩ (by simp +contextual -dsimp only [↓SD, SU, simprocAttr, Int.natCast_add]) ?_⟩
  exact Np hlt (by omega) hH1
 ·obtain rfl : k = l.length := by omega
  rw [List.take_length]
  have ef : Co nm vs l (AV.agg [.str (bs []), .int .i64 0, .Aj]) l.length = ovL nm vs 0 l := by simp [Co]
  rw [ef]
  obtain ⟨H, hH⟩ : ∃ H, H = ((7, ⟨v, false, 72, 3, ovL nm vs 0 l⟩) :: ohL nm vs 0 l : Hp) := ⟨_, rfl⟩
  rw [← hH]
  simp +contextual -dsimp only [↓SD, SU, simprocAttr, Aa, Nat.lt_irrefl]
  rw [hH]
  refine Af.ren 2 7 nm (v := v) (n := l.length) rfl AZ rfl fun v' => ?_
  obtain ⟨H', hH'⟩ : ∃ H', H' = ((nm, ⟨v', false, 72, 3, ovL nm vs 0 l⟩) :: B1 [7] ((7, ⟨v, false, 72, 3, ovL nm vs 0 l⟩) :: ohL nm vs 0 l) : Hp) := ⟨_, rfl⟩
  have hr : An H' nm = some ⟨v', false, 72, 3, ovL nm vs 0 l⟩ := by rw [hH']; exact AZ
  have hle := Iw (α := BK) (nm := nm) (j := 7) (l := l) (vs := vs) (by omega) hH'
  dsimp only
  rw [← hH']
  refine Af.post (oh nm (glue nm (fun k => if k = nm then v' else vs k) vs) l) ?_
  simp +contextual -dsimp only [↓SD, SU, simprocAttr, hr]
  exact ⟨hle, _, (FU l).1.symm, rfl⟩

set_option maxHeartbeats 1000000 in
theorem Q1 (nm : Nat) (vs : Nat → Nat) (l : List BK) (k : Int) (h0 : 1 ≤ k) (h1 : k + (Ac.bulk l : Int) ≤ 4611686018427387904) : AU Tryz.prog 34 [ov nm vs l, .int .i64 k] (oh nm vs l) (GS nm vs k l) := by
 refine Ii.H rfl ?_
 simp +contextual -dsimp only [↓SD, SU, simprocAttr, Ii, AJ]
 refine Am (X := Nat) (fun i => ⟨[(0, .row nm (vs nm) l.length), (1, .int .i64 (k + (A0 (l.take i) : Int))), (5, .int .i64 i)], oh nm vs (BL k l i)⟩) (fun i => i ≤ l.length) (fun i => l.length - i) 0 (Nat.zero_le _) (by simp +contextual -dsimp only [↓SD, SU, simprocAttr, List.take_zero, DI, Int.natCast_zero, Int.add_zero]) (by rw [Gm]; exact OVal.self _ _ _) ?_
 rintro i hi
 by_cases hlt : i < l.length
 ·have hLi : i < (BL k l i).length := by rw [DC hi]; exact hlt
  have hLl : (BL k l i).length = l.length := DC hi
  have hgi := HB hlt hLi
  have hsf := HA (k := k) hlt
  have hroom := Cp hlt
  have htake := Df hlt
  have hle := JR l (i + 1)
  have e := Ep nm vs (BL k l i) hLi .top
  rw [hgi, IY] at e
  have hel := Lp (nm := nm) (vs := vs) hLi
  rw [hgi, MM] at hel
  have hr := Er nm vs (BL k l i)
  have hlen : (ovL nm vs 0 (BL k l i)).length = l.length := by rw [B2, hLl]
  obtain ⟨x, hx⟩ : ∃ x, x = l[i] := ⟨_, rfl⟩
  obtain ⟨K, hK⟩ : ∃ K, K = k + (A0 (l.take i) : Int) := ⟨_, rfl⟩
  try rw [← hx] at e
  try rw [← hx] at hroom
  try rw [← hx] at htake
  try rw [← hx] at hel
  rw [← hx] at hsf
  rw [← hK] at hsf
  rw [Dv] at hr
  obtain ⟨E, hE⟩ : ∃ E, E = ovL nm vs 0 (BL k l i) := ⟨_, rfl⟩
  have hcount : cnt x = 2 + A0 x.cons := rfl
  rw [hcount] at htake
  have hbx : Ac.bulk x = Ac.bulk x.name + Ac.bulk x.params + Ac.bulk x.cons + 1 := rfl
  have hbx_0 : Ac.bulk x.name = x.name.size + 1 := rfl
  have hbx_1 : Ac.bulk x.params = 1 := rfl
  have hbx_2 := BA x.cons
  have hbl := Ag l
  have hKn : k + (A0 (l.take (i + 1)) : Int) = K + 1 + 1 + (A0 x.cons : Int) := by rw [htake]; omega
  have hKb : K + (Ac.bulk x : Int) ≤ 4611686018427387904 := by omega
  have hK1 : 1 ≤ K := by omega
  have hmk : ov (sub nm i) vs (mkv K x) = AV.agg [.str (Ec (K)), .int .i64 (K + 1), .row (sub (sub nm i) 0) (vs (sub (sub nm i) 0)) x.cons.length] := by rw [VB, IY]; simp only [A6]
  have hus : ovL nm vs 0 ((BL k l i).set i (mkv K x)) = E.set i (AV.agg [.str (Ec (K)), .int .i64 (K + 1), .row (sub (sub nm i) 0) (vs (sub (sub nm i) 0)) x.cons.length]) := by rw [HZ, hmk, ← hE]
  rw [← hE] at e hlen hr
  rw [← hK]
  have gs : ∀ a, (E.set i a).getD i .top = a := fun a => by rw [List.getD_eq_getElem?_getD, List.getElem?_set_self (by rw [hlen]; exact hlt)]; rfl
  have ls : ∀ a, (E.set i a).length = l.length := fun a => by rw [List.length_set, hlen]
  obtain ⟨H, hH⟩ : ∃ H, H = oh nm vs (BL k l i) := ⟨_, rfl⟩
  rw [← hH] at hr hel
  have hq : ∀ q, ¬ InT (sub nm i) q → q ≠ nm → An H q = An (oh nm vs (BL k l i)) q := fun q _ _ => by rw [hH]
  rw [show (AVal.n BK) = 3 from rfl] at hr
  rw [← hH]
  clear hH
  have hl0 := hel
  have hk0 := Aq hl0
  have hn0 : ¬ InT (sub (sub nm i) 0) nm := JF
  have hb0 : (nm == sub (sub nm i) 0) = false := IX
  simp +contextual -dsimp only [↓SD, SU, simprocAttr, hlt, hlen, e, gs, ls, List.set_set, AJ, false_and, hr, hk0, hb0]
  repeat (refine And.intro (by omega) ?_)
  refine Ab _ (Dm (K) (by omega) (by omega)) ?_
  simp +contextual -dsimp only [↓SD, SU, simprocAttr, hlt, hlen, e, gs, ls, List.set_set, AJ, false_and, hr, hk0, hb0]
  repeat (refine And.intro (by omega) ?_)
  refine As (on (sub (sub nm i) 0) x.cons) (TD (sub (sub nm i) 0) vs x.cons _ (by omega) (by omega)) (Dd (by repeat (first | exact hl0 | refine Al hn0 ?_))) ?_
  rintro r hp' ⟨rfl, rfl⟩ H0 hH0
  have hr0 := Ei hH0 hn0 AZ
  have hq0 := IW (X := fun q => An (oh nm vs (BL k l i)) q) hH0 (by repeat (first | exact hq | refine DV ?_))
  have hd0 := Cb hH0
  rw [F6]
  simp +contextual -dsimp only [↓SD, SU, simprocAttr, hlt, hlen, e, gs, ls, List.set_set, AJ, false_and, hr0, hb0]
  repeat (refine And.intro (by omega) ?_)
  refine Af.le ⟨i + 1, ⟨hlt, (by first | omega | (simp only; omega))⟩, rfl⟩ (by simp +contextual -dsimp only [↓SD, SU, simprocAttr, Int.natCast_add, hKn]) ?_
  rw [← hsf]
  refine L1 hLi ?_ ?_ ?_
  ·repeat (first | exact hq0 | refine DV ?_)
  ·rw [Dv, hus]; first | exact AZ | exact hr0
  ·rw [MM]; exact (by repeat (first | exact hd0 | refine Al hn0 ?_))
 ·obtain rfl : i = l.length := by omega
  rw [Gn, Dg]
  have hr := Er nm vs (mkL k l)
  have hs := OVal.self nm vs (mkL k l)
  obtain ⟨H, hH⟩ : ∃ H, H = oh nm vs (mkL k l) := ⟨_, rfl⟩
  rw [← hH]
  simp +contextual -dsimp only [↓SD, SU, simprocAttr, Nat.lt_irrefl, Aa]
  refine Af.post H ?_
  simp +contextual -dsimp only [↓SD, SU, simprocAttr]
  exact ⟨by rw [hH]; exact hs, rfl, by rw [hH]; rfl⟩

set_option maxHeartbeats 1000000 in
theorem Q5 (l : List BK) (k : Int) (h0 : 1 ≤ k) (h1 : k + (Ac.bulk l : Int) ≤ 4611686018427387904) : Ak Tryz.prog 36 [.sl ((mkL k l).map av), .int .i64 k] (.int .i64 (k + (A0 l : Int))) := by
 refine Ik.F rfl (by simp; exact ⟨Ao _, Bo _⟩) (Bo _) ?_
 simp +contextual -dsimp only [↓SD, SU, simprocAttr, Ik, Aa, A6]
 refine Am (X := Nat) (fun i => ⟨[(0, .sl ((mkL k l).map av)), (1, .int .i64 (k + (A0 (l.take i) : Int))), (5, .int .i64 i)], []⟩) (fun i => i ≤ l.length) (fun i => l.length - i) 0 (Nat.zero_le _) (by simp +contextual -dsimp only [↓SD, SU, simprocAttr, List.take_zero, DI, Int.natCast_zero, Int.add_zero]) trivial ?_
 rintro i hi
 by_cases hlt : i < l.length
 ·have hroom := Cp hlt
  have htake := Df hlt
  have e := getD_map av (mkL k l) i .top (by rw [A6]; exact hlt)
  rw [H6 k l i hlt] at e
  rw [VB, BJ] at e
  obtain ⟨x, hx⟩ : ∃ x, x = l[i] := ⟨_, rfl⟩
  obtain ⟨K, hK⟩ : ∃ K, K = k + (A0 (l.take i) : Int) := ⟨_, rfl⟩
  (rw [← hx] at hroom htake; try rw [← hx] at e)
  rw [← hK] at e ⊢
  have hcount : cnt x = 2 + A0 x.cons := rfl
  rw [hcount] at htake
  have hbx : Ac.bulk x = Ac.bulk x.name + Ac.bulk x.params + Ac.bulk x.cons + 1 := rfl
  have hbx_0 : Ac.bulk x.name = x.name.size + 1 := rfl
  have hbx_1 : Ac.bulk x.params = 1 := rfl
  have hbx_2 := BA x.cons
  have hbl := Ag l
  have hKn : k + (A0 (l.take (i + 1)) : Int) = K + 1 + 1 + (A0 x.cons : Int) := by rw [htake]; omega
  have hKb : K + (Ac.bulk x : Int) ≤ 4611686018427387904 := by omega
  have hK1 : 1 ≤ K := by omega
  simp +contextual -dsimp only [↓SD, SU, simprocAttr, hlt, Aa, A6, beq_self_eq_true, e]
  repeat (refine And.intro (by omega) ?_)
  refine Ab _ (Dm (K) (by omega) (by omega)) ?_
  simp +contextual -dsimp only [↓SD, SU, simprocAttr, hlt, Aa, A6, beq_self_eq_true, e]
  repeat (refine And.intro (by omega) ?_)
  refine Ab _ (TQ x.cons (K + 1 + 1) (by omega) (by omega)) ?_
  have g0 : ¬ K + 1 + 1 + (A0 x.cons : Int) < 0 := by omega
  simp +contextual -dsimp only [↓SD, SU, simprocAttr, hlt, Aa, A6, beq_self_eq_true, e, g0]
  repeat (refine And.intro (by omega) ?_)
  exact Af.le ⟨i + 1, ⟨hlt, (by first | omega | (simp only; omega))⟩, rfl⟩ (by simp +contextual -dsimp only [↓SD, SU, simprocAttr, Int.natCast_add, hKn]) trivial
 ·obtain rfl : i = l.length := by omega
  rw [Dg]
  simp +contextual -dsimp only [↓SD, SU, simprocAttr, Nat.lt_irrefl, Aa, A6]

instance : OVal Node where
 ty := 49
 ov nm vs x := .agg [.int .i64 x.kind, .int .i64 x.pos, .int .i64 x.n, .str x.s, ov (sub nm 0) vs x.kids, ov (sub nm 1) vs x.Ai]
 oh nm vs x := oh (sub nm 0) vs x.kids ++ oh (sub nm 1) vs x.Ai
 on nm x := on (sub nm 0) x.kids ++ on (sub nm 1) x.Ai
 names nm vs x := by simp only [List.map_append, OVal.names]
 inn nm x k h := by rcases List.mem_append.1 h with h | h <;> exact (OVal.inn _ _ _ h).up
 self nm vs x := LC (OVal.self _ _ _) (OVal.self _ _ _) fun p hp q hq e => by
  have h1 := OVal.inh hp
  have h2 := OVal.inh hq
  rw [e] at h2
  have := h1.sib h2
  omega
 FL nm vs vs' x h := by
  obtain ⟨a0, b0⟩ := OVal.FL (sub nm 0) vs vs' x.kids (fun k hk => h k hk.up)
  obtain ⟨a1, b1⟩ := OVal.FL (sub nm 1) vs vs' x.Ai (fun k hk => h k hk.up)
  simp only [a0, b0, a1, b1, and_self]
 HE nm vs x hp h := by
  rw [Ap] at h
  have h0 := OVal.HE (sub nm 0) vs x.kids hp h.1
  have h1 := OVal.HE (sub nm 1) vs x.Ai (B3 (on (sub nm 0) x.kids) hp) (Jr (fun p hp => Gl (BG (by omega) (OVal.inh hp))) h.2)
  rw [← DU] at h1
  have d0 : (ov (sub nm 0) vs x.kids).pur (B3 (on (sub nm 0) x.kids ++ on (sub nm 1) x.Ai) hp) = (ov (sub nm 0) vs x.kids).pur (B3 (on (sub nm 0) x.kids) hp) := OVal.dep _ _ _ _ _ fun k hk => by
   rw [DU, BH (Gl (BG (by omega) hk))]
  rw [← d0] at h0
  show AV.agg [.int .i64 x.kind, .int .i64 x.pos, .int .i64 x.n, .str x.s, (ov (sub nm 0) vs x.kids).pur (B3 (on (sub nm 0) x.kids ++ on (sub nm 1) x.Ai) hp), (ov (sub nm 1) vs x.Ai).pur (B3 (on (sub nm 0) x.kids ++ on (sub nm 1) x.Ai) hp)] = av x
  rw [h0, h1]; rfl
 dep nm vs x hp hp' h := by
  have h0 := OVal.dep (sub nm 0) vs x.kids hp hp' (fun k hk => h k hk.up)
  have h1 := OVal.dep (sub nm 1) vs x.Ai hp hp' (fun k hk => h k hk.up)
  show AV.agg [.int .i64 x.kind, .int .i64 x.pos, .int .i64 x.n, .str x.s, (ov (sub nm 0) vs x.kids).pur hp, (ov (sub nm 1) vs x.Ai).pur hp] = AV.agg [.int .i64 x.kind, .int .i64 x.pos, .int .i64 x.n, .str x.s, (ov (sub nm 0) vs x.kids).pur hp', (ov (sub nm 1) vs x.Ai).pur hp']
  rw [h0, h1]
 free nm vs x p h := by rcases List.mem_append.1 h with h | h <;> exact OVal.free _ _ _ p h
 Kq nm vs x y hx := by
  simp only [AV.cells, List.mem_cons, List.not_mem_nil, or_false] at hx
  rcases hx with rfl | rfl | rfl | rfl | rfl | rfl <;> rfl
 ok _ _ _ := rfl
 agg _ _ _ := rfl
 len _ _ _ := rfl
theorem Lm (nm : Nat) (vs : Nat → Nat) (x : Node) : ov nm vs x = .agg [.int .i64 x.kind, .int .i64 x.pos, .int .i64 x.n, .str x.s, .row (sub nm 0) (vs (sub nm 0)) x.kids.length, .row (sub nm 1) (vs (sub nm 1)) x.Ai.length] := eqq rfl
theorem O3 (nm : Nat) (vs : Nat → Nat) (x : Node) : oh nm vs x = oh (sub nm 0) vs x.kids ++ oh (sub nm 1) vs x.Ai := rfl

instance : Mk Node := ⟨fun k x => ⟨k, k + 1, k + 1 + 1, Ec (k + 1 + 1 + 1), mkL (k + 1 + 1 + 1 + 1) x.kids, mkL (k + 1 + 1 + 1 + 1 + (A0 x.kids : Int)) x.Ai⟩, fun x => 4 + A0 x.kids + A0 x.Ai⟩
theorem ZC (k : Int) (x : Node) : mkv k x = ⟨k, k + 1, k + 1 + 1, Ec (k + 1 + 1 + 1), mkL (k + 1 + 1 + 1 + 1) x.kids, mkL (k + 1 + 1 + 1 + 1 + (A0 x.kids : Int)) x.Ai⟩ := rfl
theorem Adk (x : Node) : cnt x = 4 + A0 x.kids + A0 x.Ai := rfl
instance : MkB Node := ⟨fun x => by
 have hbx : Ac.bulk x = Ac.bulk x.kind + Ac.bulk x.pos + Ac.bulk x.n + Ac.bulk x.s + Ac.bulk x.kids + Ac.bulk x.Ai + 1 := rfl
 have hbx_0 : Ac.bulk x.kind = 1 := rfl
 have hbx_1 : Ac.bulk x.pos = 1 := rfl
 have hbx_2 : Ac.bulk x.n = 1 := rfl
 have hbx_3 : Ac.bulk x.s = x.s.size + 1 := rfl
 have hbx_4 := BA x.kids
 have hbx_5 := BA x.Ai
 rw [Adk]
 omega⟩

theorem XB (nm : Nat) (x : Node) (hx : Ac.bulk x ≤ 4294967296) : AU Tryz.prog 46 [av x] [] (BW nm x) := by
 have hb : Ac.bulk x.kind + Ac.bulk x.pos + Ac.bulk x.n + Ac.bulk x.s + Ac.bulk x.kids + Ac.bulk x.Ai + 1 ≤ 4294967296 := hx
 refine Jc.H rfl ?_
 simp +contextual -dsimp only [↓SD, SU, simprocAttr, Jc, Ay]
 (repeat' (first | intro _ | refine And.intro ?_ ?_))
 refine As [] (Pg (sub nm 0) x.kids (by omega)) (by simp +contextual -dsimp only [↓SD, SU, simprocAttr]) ?_
 rintro r hp' ⟨v0, rfl, rfl⟩ H0 hH0
 rw [Bs] at hH0
 have hold0 := EK hH0
 have ho0_0 : Ax H0 (oh (sub nm 0) v0 x.kids) := by rw [hH0]; exact Bz (OVal.self _ _ _)
 have hr0_0 := Aq ho0_0
 simp +contextual -dsimp only [↓SD, SU, simprocAttr, AJ, AQ, hold0, hr0_0]
 refine As [] (Xz (sub nm 1) x.Ai (by omega)) (by simp +contextual -dsimp only [↓SD, SU, simprocAttr]) ?_
 rintro r hp' ⟨v1, rfl, rfl⟩ H1 hH1
 rw [Bs] at hH1
 have hold1 := EK hH1
 have ho1_1 : Ax H1 (oh (sub nm 1) v1 x.Ai) := by rw [hH1]; exact Bz (OVal.self _ _ _)
 have hr1_1 := Aq ho1_1
 have ho1_0 : Ax H1 (oh (sub nm 0) v0 x.kids) := Az.2 fun p hp => by rw [hH1, BR (FE (BG (by omega) (OVal.inh hp)))]; exact Az.1 (by repeat (first | exact ho0_0 | refine Eg ?_ (by omega))) p hp
 have hr1_0 := Aq ho1_0
 simp +contextual -dsimp only [↓SD, SU, simprocAttr, AJ, AQ, hold0, hold1, hr1_0, hr1_1]
 have hne : ∀ k, InT (sub nm 1) k → ¬ InT (sub nm 0) k := fun k h => BG (by omega) h
 have he : oh nm (glue (sub nm 0) v0 v1) x = oh (sub nm 0) v0 x.kids ++ oh (sub nm 1) v1 x.Ai := by rw [O3, Lo, Hy v0 v1 _ hne]
 refine Af.post (oh nm (glue (sub nm 0) v0 v1) x) ?_
 simp +contextual -dsimp only [↓SD, SU, simprocAttr, AQ, hold1, hold0, false_and, hr1_0, hr1_1]
 refine ⟨?_, _, ?_, rfl⟩
 ·rw [he, Ap]
  exact ⟨(by repeat (first | exact ho1_0 | refine Eg ?_ (by omega))), (by repeat (first | exact ho1_1 | refine Eg ?_ (by omega)))⟩
 ·rw [Lm, Hf .root, DT (hne _ .root)]

theorem Uk (nm : Nat) (l : List Node) (hx : Ac.bulk l ≤ 4294967296) : AU Tryz.prog 21 [.sl (l.map av)] [] (BW nm l) := by
 have hl := Ag l
 refine Ih.H rfl ?_
 simp +contextual -dsimp only [↓SD, SU, simprocAttr, Ih, Aa]
 refine ⟨by omega, fun v => ?_⟩
 refine Am (X := Nat × (Nat → Nat)) (fun x => ⟨[(0, .sl (l.map av)), (3, .row 7 v l.length), (4, .int .i64 x.1)], (7, ⟨v, false, 49, 6, Co nm x.2 l (AV.agg [.int .i64 0, .int .i64 0, .int .i64 0, .str (bs []), .Aj, .Aj]) x.1⟩) :: ohL nm x.2 0 (l.take x.1)⟩) (fun x => x.1 ≤ l.length) (fun x => l.length - x.1) (0, fun _ => 0) (Nat.zero_le _) (by simp +contextual -dsimp only [↓SD, SU, simprocAttr]) (by simp +contextual -dsimp only [↓SD, SU, simprocAttr, HR, List.take_zero, EL]) ?_
 rintro ⟨k, vs⟩ hk
 dsimp only at hk ⊢
 by_cases hlt : k < l.length
 ·have e := getD_map av l k .top hlt
  have hbk : Ac.bulk l[k] ≤ 4294967296 := by have := AG (List.getElem_mem hlt); omega
  have e1 := Jv (nm := nm) (vs := vs) (AV.agg [.int .i64 0, .int .i64 0, .int .i64 0, .str (bs []), .Aj, .Aj]) hk
  have e2 := Jw (nm := nm) (vs := vs) (AV.agg [.int .i64 0, .int .i64 0, .int .i64 0, .str (bs []), .Aj, .Aj]) hlt .top
  obtain ⟨H, hH⟩ : ∃ H, H = ((7, ⟨v, false, 49, 6, Co nm vs l (AV.agg [.int .i64 0, .int .i64 0, .int .i64 0, .str (bs []), .Aj, .Aj]) k⟩) :: ohL nm vs 0 (l.take k) : Hp) := ⟨_, rfl⟩
  have h7 : An H 7 = some ⟨v, false, 49, 6, Co nm vs l (AV.agg [.int .i64 0, .int .i64 0, .int .i64 0, .str (bs []), .Aj, .Aj]) k⟩ := by rw [hH]; exact AZ
  rw [← hH]
  simp +contextual -dsimp only [↓SD, SU, simprocAttr, Aa, hlt, e, Ay, h7]
  have C := XB (sub nm k) l[k] hbk
  rw [Ay] at C
  refine As [] C (by simp +contextual -dsimp only [↓SD, SU, simprocAttr]) ?_
  rintro r hp' ⟨v1, rfl, rfl⟩ H1 hH1
  have h71 : An H1 7 = some ⟨v, false, 49, 6, Co nm vs l (AV.agg [.int .i64 0, .int .i64 0, .int .i64 0, .str (bs []), .Aj, .Aj]) k⟩ := by
   rw [hH1, Bs, BR (FE fun h' => by have := h'.ge; omega)]; exact h7
  have e3 := Ju (nm := nm) (vs := v1) (vs' := vs) (z := (AV.agg [.int .i64 0, .int .i64 0, .int .i64 0, .str (bs []), .Aj, .Aj])) hlt
  rw [Lm] at e3
  simp +contextual -dsimp only [↓SD, SU, simprocAttr, Aa, hlt, e, Ay, Lm, h71, e1, e2, e3]
  rw [hH] at hH1
  refine ⟨by omega, Af.le ⟨(k + 1, glue (sub nm k) v1 vs), ⟨hlt, (by first | omega | (simp only; omega))⟩, rfl⟩ (by simp +contextual -dsimp only [↓SD, SU, simprocAttr, Int.natCast_add]) ?_⟩
  exact Np hlt (by omega) hH1
 ·obtain rfl : k = l.length := by omega
  rw [List.take_length]
  have ef : Co nm vs l (AV.agg [.int .i64 0, .int .i64 0, .int .i64 0, .str (bs []), .Aj, .Aj]) l.length = ovL nm vs 0 l := by simp [Co]
  rw [ef]
  obtain ⟨H, hH⟩ : ∃ H, H = ((7, ⟨v, false, 49, 6, ovL nm vs 0 l⟩) :: ohL nm vs 0 l : Hp) := ⟨_, rfl⟩
  rw [← hH]
  simp +contextual -dsimp only [↓SD, SU, simprocAttr, Aa, Nat.lt_irrefl]
  rw [hH]
  refine Af.ren 2 7 nm (v := v) (n := l.length) rfl AZ rfl fun v' => ?_
  obtain ⟨H', hH'⟩ : ∃ H', H' = ((nm, ⟨v', false, 49, 6, ovL nm vs 0 l⟩) :: B1 [7] ((7, ⟨v, false, 49, 6, ovL nm vs 0 l⟩) :: ohL nm vs 0 l) : Hp) := ⟨_, rfl⟩
  have hr : An H' nm = some ⟨v', false, 49, 6, ovL nm vs 0 l⟩ := by rw [hH']; exact AZ
  have hle := Iw (α := Node) (nm := nm) (j := 7) (l := l) (vs := vs) (by omega) hH'
  dsimp only
  rw [← hH']
  refine Af.post (oh nm (glue nm (fun k => if k = nm then v' else vs k) vs) l) ?_
  simp +contextual -dsimp only [↓SD, SU, simprocAttr, hr]
  exact ⟨hle, _, (FU l).1.symm, rfl⟩

set_option maxHeartbeats 1000000 in
theorem Q2 (nm : Nat) (vs : Nat → Nat) (l : List Node) (k : Int) (h0 : 1 ≤ k) (h1 : k + (Ac.bulk l : Int) ≤ 4611686018427387904) : AU Tryz.prog 35 [ov nm vs l, .int .i64 k] (oh nm vs l) (GS nm vs k l) := by
 refine Ij.H rfl ?_
 simp +contextual -dsimp only [↓SD, SU, simprocAttr, Ij, AJ]
 refine Am (X := Nat) (fun i => ⟨[(0, .row nm (vs nm) l.length), (1, .int .i64 (k + (A0 (l.take i) : Int))), (5, .int .i64 i)], oh nm vs (BL k l i)⟩) (fun i => i ≤ l.length) (fun i => l.length - i) 0 (Nat.zero_le _) (by simp +contextual -dsimp only [↓SD, SU, simprocAttr, List.take_zero, DI, Int.natCast_zero, Int.add_zero]) (by rw [Gm]; exact OVal.self _ _ _) ?_
 rintro i hi
 by_cases hlt : i < l.length
 ·have hLi : i < (BL k l i).length := by rw [DC hi]; exact hlt
  have hLl : (BL k l i).length = l.length := DC hi
  have hgi := HB hlt hLi
  have hsf := HA (k := k) hlt
  have hroom := Cp hlt
  have htake := Df hlt
  have hle := JR l (i + 1)
  have e := Ep nm vs (BL k l i) hLi .top
  rw [hgi, Lm] at e
  have hel := Lp (nm := nm) (vs := vs) hLi
  rw [hgi, O3, Ap] at hel
  have hr := Er nm vs (BL k l i)
  have hlen : (ovL nm vs 0 (BL k l i)).length = l.length := by rw [B2, hLl]
  obtain ⟨x, hx⟩ : ∃ x, x = l[i] := ⟨_, rfl⟩
  obtain ⟨K, hK⟩ : ∃ K, K = k + (A0 (l.take i) : Int) := ⟨_, rfl⟩
  try rw [← hx] at e
  try rw [← hx] at hroom
  try rw [← hx] at htake
  try rw [← hx] at hel
  rw [← hx] at hsf
  rw [← hK] at hsf
  rw [Dv] at hr
  obtain ⟨E, hE⟩ : ∃ E, E = ovL nm vs 0 (BL k l i) := ⟨_, rfl⟩
  have hcount : cnt x = 4 + A0 x.kids + A0 x.Ai := rfl
  rw [hcount] at htake
  have hbx : Ac.bulk x = Ac.bulk x.kind + Ac.bulk x.pos + Ac.bulk x.n + Ac.bulk x.s + Ac.bulk x.kids + Ac.bulk x.Ai + 1 := rfl
  have hbx_0 : Ac.bulk x.kind = 1 := rfl
  have hbx_1 : Ac.bulk x.pos = 1 := rfl
  have hbx_2 : Ac.bulk x.n = 1 := rfl
  have hbx_3 : Ac.bulk x.s = x.s.size + 1 := rfl
  have hbx_4 := BA x.kids
  have hbx_5 := BA x.Ai
  have hbl := Ag l
  have hKn : k + (A0 (l.take (i + 1)) : Int) = K + 1 + 1 + 1 + 1 + (A0 x.kids : Int) + (A0 x.Ai : Int) := by rw [htake]; omega
  have hKb : K + (Ac.bulk x : Int) ≤ 4611686018427387904 := by omega
  have hK1 : 1 ≤ K := by omega
  have hmk : ov (sub nm i) vs (mkv K x) = AV.agg [.int .i64 (K), .int .i64 (K + 1), .int .i64 (K + 1 + 1), .str (Ec (K + 1 + 1 + 1)), .row (sub (sub nm i) 0) (vs (sub (sub nm i) 0)) x.kids.length, .row (sub (sub nm i) 1) (vs (sub (sub nm i) 1)) x.Ai.length] := by rw [ZC, Lm]; simp only [A6]
  have hus : ovL nm vs 0 ((BL k l i).set i (mkv K x)) = E.set i (AV.agg [.int .i64 (K), .int .i64 (K + 1), .int .i64 (K + 1 + 1), .str (Ec (K + 1 + 1 + 1)), .row (sub (sub nm i) 0) (vs (sub (sub nm i) 0)) x.kids.length, .row (sub (sub nm i) 1) (vs (sub (sub nm i) 1)) x.Ai.length]) := by rw [HZ, hmk, ← hE]
  rw [← hE] at e hlen hr
  rw [← hK]
  have gs : ∀ a, (E.set i a).getD i .top = a := fun a => by rw [List.getD_eq_getElem?_getD, List.getElem?_set_self (by rw [hlen]; exact hlt)]; rfl
  have ls : ∀ a, (E.set i a).length = l.length := fun a => by rw [List.length_set, hlen]
  obtain ⟨H, hH⟩ : ∃ H, H = oh nm vs (BL k l i) := ⟨_, rfl⟩
  rw [← hH] at hr hel
  have hq : ∀ q, ¬ InT (sub nm i) q → q ≠ nm → An H q = An (oh nm vs (BL k l i)) q := fun q _ _ => by rw [hH]
  rw [show (AVal.n Node) = 6 from rfl] at hr
  rw [← hH]
  clear hH
  have hl0 := hel.1
  have hk0 := Aq hl0
  have hn0 : ¬ InT (sub (sub nm i) 0) nm := JF
  have hb0 : (nm == sub (sub nm i) 0) = false := IX
  have hl1 := hel.2
  have hk1 := Aq hl1
  have hn1 : ¬ InT (sub (sub nm i) 1) nm := JF
  have hb1 : (nm == sub (sub nm i) 1) = false := IX
  simp +contextual -dsimp only [↓SD, SU, simprocAttr, hlt, hlen, e, gs, ls, List.set_set, AJ, false_and, hr, hk0, hk1, hb0, hb1]
  repeat (refine And.intro (by omega) ?_)
  refine Ab _ (Dm (K + 1 + 1 + 1) (by omega) (by omega)) ?_
  simp +contextual -dsimp only [↓SD, SU, simprocAttr, hlt, hlen, e, gs, ls, List.set_set, AJ, false_and, hr, hk0, hk1, hb0, hb1]
  repeat (refine And.intro (by omega) ?_)
  refine As (on (sub (sub nm i) 0) x.kids) (MR (sub (sub nm i) 0) vs x.kids _ (by omega) (by omega)) (Dd (by repeat (first | exact hl0 | refine Al hn0 ?_))) ?_
  rintro r hp' ⟨rfl, rfl⟩ H0 hH0
  have hr0 := Ei hH0 hn0 AZ
  have hq0 := IW (X := fun q => An (oh nm vs (BL k l i)) q) hH0 (by repeat (first | exact hq | refine DV ?_))
  have hd0 := Cb hH0
  first | have hl1_0 := BC hH0 (fun k h => BG (by omega) h) hl1 | have hl1_0 := BC hH0 (fun k h => BG (by omega) h) (Al hn1 hl1) | have hl1_0 := BC hH0 (fun k h => BG (by omega) h) (Al hn1 (Al hn1 hl1)) | have hl1_0 := BC hH0 (fun k h => BG (by omega) h) (Al hn1 (Al hn1 (Al hn1 hl1))) | have hl1_0 := BC hH0 (fun k h => BG (by omega) h) (Al hn1 (Al hn1 (Al hn1 (Al hn1 hl1)))) | have hl1_0 := BC hH0 (fun k h => BG (by omega) h) (Al hn1 (Al hn1 (Al hn1 (Al hn1 (Al hn1 hl1))))) | have hl1_0 := BC hH0 (fun k h => BG (by omega) h) (Al hn1 (Al hn1 (Al hn1 (Al hn1 (Al hn1 (Al hn1 hl1)))))) | have hl1_0 := BC hH0 (fun k h => BG (by omega) h) (Al hn1 (Al hn1 (Al hn1 (Al hn1 (Al hn1 (Al hn1 (Al hn1 hl1)))))))
  have hk1_0 := Aq hl1_0
  rw [F6]
  simp +contextual -dsimp only [↓SD, SU, simprocAttr, hlt, hlen, e, gs, ls, List.set_set, AJ, false_and, hr0, hk1_0, hb0, hb1]
  repeat (refine And.intro (by omega) ?_)
  refine As (on (sub (sub nm i) 1) x.Ai) (TC (sub (sub nm i) 1) vs x.Ai _ (by omega) (by omega)) (Dd (by repeat (first | exact hl1_0 | refine Al hn1 ?_))) ?_
  rintro r hp' ⟨rfl, rfl⟩ H1 hH1
  have hr1 := Ei hH1 hn1 hr0
  have hq1 := IW (X := fun q => An (oh nm vs (BL k l i)) q) hH1 (by repeat (first | exact hq0 | refine DV ?_))
  have hd1 := Cb hH1
  first | have hd0_1 := BC hH1 (fun k h => BG (by omega) h) hd0 | have hd0_1 := BC hH1 (fun k h => BG (by omega) h) (Al hn0 hd0) | have hd0_1 := BC hH1 (fun k h => BG (by omega) h) (Al hn0 (Al hn0 hd0)) | have hd0_1 := BC hH1 (fun k h => BG (by omega) h) (Al hn0 (Al hn0 (Al hn0 hd0))) | have hd0_1 := BC hH1 (fun k h => BG (by omega) h) (Al hn0 (Al hn0 (Al hn0 (Al hn0 hd0)))) | have hd0_1 := BC hH1 (fun k h => BG (by omega) h) (Al hn0 (Al hn0 (Al hn0 (Al hn0 (Al hn0 hd0))))) | have hd0_1 := BC hH1 (fun k h => BG (by omega) h) (Al hn0 (Al hn0 (Al hn0 (Al hn0 (Al hn0 (Al hn0 hd0)))))) | have hd0_1 := BC hH1 (fun k h => BG (by omega) h) (Al hn0 (Al hn0 (Al hn0 (Al hn0 (Al hn0 (Al hn0 (Al hn0 hd0)))))))
  rw [F6]
  simp +contextual -dsimp only [↓SD, SU, simprocAttr, hlt, hlen, e, gs, ls, List.set_set, AJ, false_and, hr1, hb0, hb1]
  repeat (refine And.intro (by omega) ?_)
  refine Af.le ⟨i + 1, ⟨hlt, (by first | omega | (simp only; omega))⟩, rfl⟩ (by simp +contextual -dsimp only [↓SD, SU, simprocAttr, Int.natCast_add, hKn]) ?_
  rw [← hsf]
  refine L1 hLi ?_ ?_ ?_
  ·repeat (first | exact hq1 | refine DV ?_)
  ·rw [Dv, hus]; first | exact AZ | exact hr1
  ·rw [O3]; exact Ap.2 ⟨(by repeat (first | exact hd0_1 | refine Al hn0 ?_)), (by repeat (first | exact hd1 | refine Al hn1 ?_))⟩
 ·obtain rfl : i = l.length := by omega
  rw [Gn, Dg]
  have hr := Er nm vs (mkL k l)
  have hs := OVal.self nm vs (mkL k l)
  obtain ⟨H, hH⟩ : ∃ H, H = oh nm vs (mkL k l) := ⟨_, rfl⟩
  rw [← hH]
  simp +contextual -dsimp only [↓SD, SU, simprocAttr, Nat.lt_irrefl, Aa]
  refine Af.post H ?_
  simp +contextual -dsimp only [↓SD, SU, simprocAttr]
  exact ⟨by rw [hH]; exact hs, rfl, by rw [hH]; rfl⟩

set_option maxHeartbeats 1000000 in
theorem Q6 (l : List Node) (k : Int) (h0 : 1 ≤ k) (h1 : k + (Ac.bulk l : Int) ≤ 4611686018427387904) : Ak Tryz.prog 37 [.sl ((mkL k l).map av), .int .i64 k] (.int .i64 (k + (A0 l : Int))) := by
 refine Il.F rfl (by simp; exact ⟨Ao _, Bo _⟩) (Bo _) ?_
 simp +contextual -dsimp only [↓SD, SU, simprocAttr, Il, Aa, A6]
 refine Am (X := Nat) (fun i => ⟨[(0, .sl ((mkL k l).map av)), (1, .int .i64 (k + (A0 (l.take i) : Int))), (5, .int .i64 i)], []⟩) (fun i => i ≤ l.length) (fun i => l.length - i) 0 (Nat.zero_le _) (by simp +contextual -dsimp only [↓SD, SU, simprocAttr, List.take_zero, DI, Int.natCast_zero, Int.add_zero]) trivial ?_
 rintro i hi
 by_cases hlt : i < l.length
 ·have hroom := Cp hlt
  have htake := Df hlt
  have e := getD_map av (mkL k l) i .top (by rw [A6]; exact hlt)
  rw [H6 k l i hlt] at e
  rw [ZC, Ay] at e
  obtain ⟨x, hx⟩ : ∃ x, x = l[i] := ⟨_, rfl⟩
  obtain ⟨K, hK⟩ : ∃ K, K = k + (A0 (l.take i) : Int) := ⟨_, rfl⟩
  (rw [← hx] at hroom htake; try rw [← hx] at e)
  rw [← hK] at e ⊢
  have hcount : cnt x = 4 + A0 x.kids + A0 x.Ai := rfl
  rw [hcount] at htake
  have hbx : Ac.bulk x = Ac.bulk x.kind + Ac.bulk x.pos + Ac.bulk x.n + Ac.bulk x.s + Ac.bulk x.kids + Ac.bulk x.Ai + 1 := rfl
  have hbx_0 : Ac.bulk x.kind = 1 := rfl
  have hbx_1 : Ac.bulk x.pos = 1 := rfl
  have hbx_2 : Ac.bulk x.n = 1 := rfl
  have hbx_3 : Ac.bulk x.s = x.s.size + 1 := rfl
  have hbx_4 := BA x.kids
  have hbx_5 := BA x.Ai
  have hbl := Ag l
  have hKn : k + (A0 (l.take (i + 1)) : Int) = K + 1 + 1 + 1 + 1 + (A0 x.kids : Int) + (A0 x.Ai : Int) := by rw [htake]; omega
  have hKb : K + (Ac.bulk x : Int) ≤ 4611686018427387904 := by omega
  have hK1 : 1 ≤ K := by omega
  simp +contextual -dsimp only [↓SD, SU, simprocAttr, hlt, Aa, A6, beq_self_eq_true, e]
  repeat (refine And.intro (by omega) ?_)
  refine Ab _ (Dm (K + 1 + 1 + 1) (by omega) (by omega)) ?_
  simp +contextual -dsimp only [↓SD, SU, simprocAttr, hlt, Aa, A6, beq_self_eq_true, e]
  repeat (refine And.intro (by omega) ?_)
  refine Ab _ (Ni x.kids (K + 1 + 1 + 1 + 1) (by omega) (by omega)) ?_
  have g0 : ¬ K + 1 + 1 + 1 + 1 + (A0 x.kids : Int) < 0 := by omega
  simp +contextual -dsimp only [↓SD, SU, simprocAttr, hlt, Aa, A6, beq_self_eq_true, e, g0]
  repeat (refine And.intro (by omega) ?_)
  refine Ab _ (TP x.Ai (K + 1 + 1 + 1 + 1 + (A0 x.kids : Int)) (by omega) (by omega)) ?_
  have g1 : ¬ K + 1 + 1 + 1 + 1 + (A0 x.kids : Int) + (A0 x.Ai : Int) < 0 := by omega
  simp +contextual -dsimp only [↓SD, SU, simprocAttr, hlt, Aa, A6, beq_self_eq_true, e, g0, g1]
  repeat (refine And.intro (by omega) ?_)
  exact Af.le ⟨i + 1, ⟨hlt, (by first | omega | (simp only; omega))⟩, rfl⟩ (by simp +contextual -dsimp only [↓SD, SU, simprocAttr, Int.natCast_add, hKn]) trivial
 ·obtain rfl : i = l.length := by omega
  rw [Dg]
  simp +contextual -dsimp only [↓SD, SU, simprocAttr, Nat.lt_irrefl, Aa, A6]

instance : OVal Program where
 ty := 31
 ov nm vs x := .agg [ov (sub nm 0) vs x.types, ov (sub nm 1) vs x.nodes]
 oh nm vs x := oh (sub nm 0) vs x.types ++ oh (sub nm 1) vs x.nodes
 on nm x := on (sub nm 0) x.types ++ on (sub nm 1) x.nodes
 names nm vs x := by simp only [List.map_append, OVal.names]
 inn nm x k h := by rcases List.mem_append.1 h with h | h <;> exact (OVal.inn _ _ _ h).up
 self nm vs x := LC (OVal.self _ _ _) (OVal.self _ _ _) fun p hp q hq e => by
  have h1 := OVal.inh hp
  have h2 := OVal.inh hq
  rw [e] at h2
  have := h1.sib h2
  omega
 FL nm vs vs' x h := by
  obtain ⟨a0, b0⟩ := OVal.FL (sub nm 0) vs vs' x.types (fun k hk => h k hk.up)
  obtain ⟨a1, b1⟩ := OVal.FL (sub nm 1) vs vs' x.nodes (fun k hk => h k hk.up)
  simp only [a0, b0, a1, b1, and_self]
 HE nm vs x hp h := by
  rw [Ap] at h
  have h0 := OVal.HE (sub nm 0) vs x.types hp h.1
  have h1 := OVal.HE (sub nm 1) vs x.nodes (B3 (on (sub nm 0) x.types) hp) (Jr (fun p hp => Gl (BG (by omega) (OVal.inh hp))) h.2)
  rw [← DU] at h1
  have d0 : (ov (sub nm 0) vs x.types).pur (B3 (on (sub nm 0) x.types ++ on (sub nm 1) x.nodes) hp) = (ov (sub nm 0) vs x.types).pur (B3 (on (sub nm 0) x.types) hp) := OVal.dep _ _ _ _ _ fun k hk => by
   rw [DU, BH (Gl (BG (by omega) hk))]
  rw [← d0] at h0
  show AV.agg [(ov (sub nm 0) vs x.types).pur (B3 (on (sub nm 0) x.types ++ on (sub nm 1) x.nodes) hp), (ov (sub nm 1) vs x.nodes).pur (B3 (on (sub nm 0) x.types ++ on (sub nm 1) x.nodes) hp)] = av x
  rw [h0, h1]; rfl
 dep nm vs x hp hp' h := by
  have h0 := OVal.dep (sub nm 0) vs x.types hp hp' (fun k hk => h k hk.up)
  have h1 := OVal.dep (sub nm 1) vs x.nodes hp hp' (fun k hk => h k hk.up)
  show AV.agg [(ov (sub nm 0) vs x.types).pur hp, (ov (sub nm 1) vs x.nodes).pur hp] = AV.agg [(ov (sub nm 0) vs x.types).pur hp', (ov (sub nm 1) vs x.nodes).pur hp']
  rw [h0, h1]
 free nm vs x p h := by rcases List.mem_append.1 h with h | h <;> exact OVal.free _ _ _ p h
 Kq nm vs x y hx := by
  simp only [AV.cells, List.mem_cons, List.not_mem_nil, or_false] at hx
  rcases hx with rfl | rfl <;> rfl
 ok _ _ _ := rfl
 agg _ _ _ := rfl
 len _ _ _ := rfl
theorem AA (nm : Nat) (vs : Nat → Nat) (x : Program) : ov nm vs x = .agg [.row (sub nm 0) (vs (sub nm 0)) x.types.length, .row (sub nm 1) (vs (sub nm 1)) x.nodes.length] := eqq rfl
theorem BP (nm : Nat) (vs : Nat → Nat) (x : Program) : oh nm vs x = oh (sub nm 0) vs x.types ++ oh (sub nm 1) vs x.nodes := rfl

instance : Mk Program := ⟨fun k x => ⟨mkL (k) x.types, mkL (k + (A0 x.types : Int)) x.nodes⟩, fun x => A0 x.types + A0 x.nodes⟩
theorem Hz (k : Int) (x : Program) : mkv k x = ⟨mkL (k) x.types, mkL (k + (A0 x.types : Int)) x.nodes⟩ := rfl
theorem La (x : Program) : cnt x = A0 x.types + A0 x.nodes := rfl
instance : MkB Program := ⟨fun x => by
 have hbx : Ac.bulk x = Ac.bulk x.types + Ac.bulk x.nodes + 1 := rfl
 have hbx_0 := BA x.types
 have hbx_1 := BA x.nodes
 rw [La]
 omega⟩

theorem QU (nm : Nat) (x : Program) (hx : Ac.bulk x ≤ 4294967296) : AU Tryz.prog 7 [av x] [] (BW nm x) := by
 have hb : Ac.bulk x.types + Ac.bulk x.nodes + 1 ≤ 4294967296 := hx
 refine G0.H rfl ?_
 simp +contextual -dsimp only [↓SD, SU, simprocAttr, G0, Ad]
 (repeat' (first | intro _ | refine And.intro ?_ ?_))
 refine As [] (Uh (sub nm 0) x.types (by omega)) (by simp +contextual -dsimp only [↓SD, SU, simprocAttr]) ?_
 rintro r hp' ⟨v0, rfl, rfl⟩ H0 hH0
 rw [Bs] at hH0
 have hold0 := EK hH0
 have ho0_0 : Ax H0 (oh (sub nm 0) v0 x.types) := by rw [hH0]; exact Bz (OVal.self _ _ _)
 have hr0_0 := Aq ho0_0
 simp +contextual -dsimp only [↓SD, SU, simprocAttr, AJ, AQ, hold0, hr0_0]
 refine As [] (Uk (sub nm 1) x.nodes (by omega)) (by simp +contextual -dsimp only [↓SD, SU, simprocAttr]) ?_
 rintro r hp' ⟨v1, rfl, rfl⟩ H1 hH1
 rw [Bs] at hH1
 have hold1 := EK hH1
 have ho1_1 : Ax H1 (oh (sub nm 1) v1 x.nodes) := by rw [hH1]; exact Bz (OVal.self _ _ _)
 have hr1_1 := Aq ho1_1
 have ho1_0 : Ax H1 (oh (sub nm 0) v0 x.types) := Az.2 fun p hp => by rw [hH1, BR (FE (BG (by omega) (OVal.inh hp)))]; exact Az.1 (by repeat (first | exact ho0_0 | refine Eg ?_ (by omega))) p hp
 have hr1_0 := Aq ho1_0
 simp +contextual -dsimp only [↓SD, SU, simprocAttr, AJ, AQ, hold0, hold1, hr1_0, hr1_1]
 have hne : ∀ k, InT (sub nm 1) k → ¬ InT (sub nm 0) k := fun k h => BG (by omega) h
 have he : oh nm (glue (sub nm 0) v0 v1) x = oh (sub nm 0) v0 x.types ++ oh (sub nm 1) v1 x.nodes := by rw [BP, Lo, Hy v0 v1 _ hne]
 refine Af.post (oh nm (glue (sub nm 0) v0 v1) x) ?_
 simp +contextual -dsimp only [↓SD, SU, simprocAttr, AQ, hold1, hold0, false_and, hr1_0, hr1_1]
 refine ⟨?_, _, ?_, rfl⟩
 ·rw [he, Ap]
  exact ⟨(by repeat (first | exact ho1_0 | refine Eg ?_ (by omega))), (by repeat (first | exact ho1_1 | refine Eg ?_ (by omega)))⟩
 ·rw [AA, Hf .root, DT (hne _ .root)]

theorem JX (nm : Nat) (vs : Nat → Nat) (x : Program) (k : Int) (h0 : 1 ≤ k) (h1 : k + (Ac.bulk x : Int) ≤ 4611686018427387904) : AU Tryz.prog 12 [ov nm vs x, .int .i64 k] (oh nm vs x) (GS nm vs k x) := by
 have hbx : Ac.bulk x = Ac.bulk x.types + Ac.bulk x.nodes + 1 := rfl
 have hbx_0 := BA x.types
 have hbx_1 := BA x.nodes
 obtain ⟨H, hH⟩ : ∃ H, H = oh nm vs x := ⟨_, rfl⟩
 have hs : Ax H (oh nm vs x) := by rw [hH]; exact OVal.self nm vs x
 rw [← hH]
 rw [BP, Ap] at hs
 refine G2.H rfl ?_
 have hl0 := hs.1
 have hk0 := Aq hl0
 have hl1 := hs.2
 have hk1 := Aq hl1
 simp +contextual -dsimp only [↓SD, SU, simprocAttr, G2, AA, false_and, hk0, hk1]
 refine As (on (sub nm 0) x.types) (Q1 (sub nm 0) vs x.types _ (by omega) (by omega)) (Dd hl0) ?_
 rintro r hp' ⟨rfl, rfl⟩ H0 hH0
 have hd0 := Cb hH0
 have hl1_0 := BC hH0 (fun k h => BG (by omega) h) hl1
 have hk1_0 := Aq hl1_0
 rw [F6]
 simp +contextual -dsimp only [↓SD, SU, simprocAttr, AA, false_and, hk1_0]
 refine As (on (sub nm 1) x.nodes) (Q2 (sub nm 1) vs x.nodes _ (by omega) (by omega)) (Dd hl1_0) ?_
 rintro r hp' ⟨rfl, rfl⟩ H1 hH1
 have hd1 := Cb hH1
 have hd0_1 := BC hH1 (fun k h => BG (by omega) h) hd0
 rw [F6]
 simp +contextual -dsimp only [↓SD, SU, simprocAttr, AA, false_and]
 refine Af.post (oh nm vs (mkv k x)) ?_
 simp +contextual -dsimp only [↓SD, SU, simprocAttr]
 refine ⟨by rw [BP]; exact Ap.2 ⟨hd0_1, hd1⟩, ?_, rfl⟩
 rw [La]; exact congrArg _ (by omega)

theorem Kn (x : Program) (k : Int) (h0 : 1 ≤ k) (h1 : k + (Ac.bulk x : Int) ≤ 4611686018427387904) : Ak Tryz.prog 13 [av (mkv k x), .int .i64 k] (.int .i64 (k + (cnt x : Int))) := by
 have hbx : Ac.bulk x = Ac.bulk x.types + Ac.bulk x.nodes + 1 := rfl
 have hbx_0 := BA x.types
 have hbx_1 := BA x.nodes
 rw [La]
 refine G4.F rfl (by simp; exact ⟨AVal.clean _, Bo _⟩) (Bo _) ?_
 simp +contextual -dsimp only [↓SD, SU, simprocAttr, G4, Hz, Ad]
 refine Ab _ (Q5 x.types (k) (by omega) (by omega)) ?_
 have g0 : ¬ k + (A0 x.types : Int) < 0 := by omega
 simp +contextual -dsimp only [↓SD, SU, simprocAttr, Hz, Ad, g0]
 refine Ab _ (Q6 x.nodes (k + (A0 x.types : Int)) (by omega) (by omega)) ?_
 have g1 : ¬ k + (A0 x.types : Int) + (A0 x.nodes : Int) < 0 := by omega
 simp +contextual -dsimp only [↓SD, SU, simprocAttr, Hz, Ad, g0, g1]
 exact congrArg _ (by omega)

end Go.Proofs.YtppjinmlfcokaaaGreat
