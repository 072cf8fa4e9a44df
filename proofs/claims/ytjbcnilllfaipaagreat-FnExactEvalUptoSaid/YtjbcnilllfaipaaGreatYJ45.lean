/-
 WHAT A CONTRACT MAY TAKE FOR GRANTED: what its arguments' values show. Conditions: none.
-/
import Derived.Test.YtjbcnilllfaipaaGreatYJ06
import Derived.Test.YtjbcnilllfaipaaGreatYJ44
import Derived.Test.YtjbcnilllfaipaaGreatProg
import Derived.Test.YtjbcnilllfaipaaGreatYAvDraw
import Derived.Test.YtjbcnilllfaipaaGreatYJ43
import Derived.Test.YtjbcnilllfaipaaGreatYJ07
set_option linter.unusedVariables false
set_option linter.unusedSimpArgs false
namespace Go.Proofs.YtjbcnilllfaipaaGreat
open Go.RowKit Go.Proofs.YtjbcnilllfaipaaGreat.Av Go.Proofs.YtjbcnilllfaipaaGreat.Ml
open Go.Proofs.YtjbcnilllfaipaaGreat.Av.AVal (av)

theorem SQ {P : Go.Program} {f : FuncId} {args : List AV} {res : AV} (Q : Prop) (hc : Dy P f = true) (hp : ∀ x ∈ args, Ac x) (hQ : ∀ S w vs, VRs S w mu0 vs args → Q) (h : Q → Ap P f args res) : Ap P f args res :=
 ⟨hc, hp, fun S w vs hlt hv => (h (hQ S w vs hv)).2.2 S w vs hlt hv⟩
theorem Adi {S : Nat → Prop} {w : World} {μ : Mu} {vs : List Value} {xs : List AV} (h : VRs S w μ vs xs) {i : Nat} {x : AV} (hx : xs[i]? = some x) : ∃ v, VR S w μ v x := by
 have hlt := (List.getElem?_eq_some_iff.1 hx).1
 have hl := h.1
 exact ⟨_, h.2 i (vs[i]'(by omega)) x (List.getElem?_eq_getElem (by omega)) hx⟩
theorem Adj {S : Nat → Prop} {w : World} {μ : Mu} {v : Value} {n : Int} (h : VR S w μ v (.int .i64 n)) : -9223372036854775808 ≤ n ∧ n ≤ 9223372036854775807 := by
 cases h with | int _ _ a b => exact ⟨a, b⟩
theorem S0 {S : Nat → Prop} {w : World} {μ : Mu} {v : Value} {es : List AV} (h : VR S w μ v (.sl es)) {e x : AV} (he : e ∈ es) (hx : x ∈ e.cells) : ∃ u, VR S w μ u x := by
 cases h with
 | sl0 => cases he
 | sl b o cap esz vs _ hS hl hm hz hc hh =>
  obtain ⟨i, hi, rfl⟩ := List.mem_iff_getElem.1 he
  obtain ⟨j, hj, rfl⟩ := List.mem_iff_getElem.1 hx
  exact ⟨_, hh i j (es[i]) _ (List.getElem?_eq_getElem hi) (List.getElem?_eq_getElem hj)⟩
end Go.Proofs.YtjbcnilllfaipaaGreat
set_option linter.unusedVariables false
set_option linter.unusedSimpArgs false
set_option maxRecDepth 100000
namespace Go.Proofs.YtjbcnilllfaipaaGreat
open Go.RowKit Go.Proofs.YtjbcnilllfaipaaGreat.Av Go.Proofs.YtjbcnilllfaipaaGreat.Ml
open Go.Proofs.YtjbcnilllfaipaaGreat.Av.AVal (av)

theorem P7 (l : List ByteArray) (hl : l.length ≤ 1099511627776) : Ap Tryz.prog 27 [.sl (l.map av), .sl (l.map av)] (.bool true) := by
 refine HE.F rfl (by simp; exact Aq l) (Ac.bool _) ?_
 simp +contextual -dsimp (maxSteps := 2000000) only [↓SD, SU, simprocAttr, HE, Aa]
 refine Al (X := Nat) (fun k => ⟨[(0, .sl (l.map av)), (1, .sl (l.map av)), (5, .int .i64 k)], []⟩) (fun k => k ≤ l.length) (fun k => l.length - k) 0 (Nat.zero_le _) (by simp +contextual -dsimp only [↓SD, SU, simprocAttr]) trivial ?_
 intro k hk
 by_cases hlt : k < l.length
 ·have e := getD_map av l k .top hlt
  simp +contextual -dsimp (maxSteps := 2000000) only [↓SD, SU, simprocAttr, Aa, hlt, e, B7]
  exact ⟨by omega, WZ (k + 1) hlt (by first | omega | (simp only; omega)) (by simp +contextual -dsimp only [↓SD, SU, simprocAttr, Int.natCast_add]) trivial⟩
 ·obtain rfl : k = l.length := by omega
  simp +contextual -dsimp (maxSteps := 2000000) only [↓SD, SU, simprocAttr, Aa, Nat.lt_irrefl]
theorem P8 (x : Outcome) (hl : x.trace.length ≤ 1099511627776) : Ap Tryz.prog 9 [av x, av x] (.bool true) := by
 refine HG.F rfl (by simp; exact AVal.clean x) (Ac.bool _) ?_
 simp +contextual -dsimp (maxSteps := 2000000) only [↓SD, SU, simprocAttr, HG, A4, beq_self_eq_true]
 refine Ab _ (P7 x.trace (by omega)) ?_
 simp +contextual -dsimp (maxSteps := 2000000) only [↓SD, SU, simprocAttr, beq_self_eq_true]
theorem Qk {B : Nat} : ∀ {l : List ByteArray}, (∀ s ∈ l, s.size ≤ B) → (l.map Ad.bulk).sum ≤ l.length * (B + 1)
 | [], _ => by simp
 | s :: r, h => by
  have h1 := h s (by simp)
  have h2 := Qk (l := r) fun x hx => h x (by simp [hx])
  have h3 : Ad.bulk s = s.size + 1 := rfl
  rw [List.map_cons, List.sum_cons, List.length_cons, Nat.succ_mul, h3]
  omega
theorem Aco (r : Option EV × ES) : (Wl r).trace = r.2.tr := by
 obtain ⟨_ | v, s⟩ := r <;> rfl
theorem UU {p : Program} {inp : List Int} {m : Int} (hx : Ad.bulk p ≤ 1099511627776) (hi : ∀ x ∈ inp, I64 x) (hl : inp.length ≤ 1099511627776) : (DT p inp m).trace.length ≤ 20000 ∧ Ad.bulk (DT p inp m) ≤ 100000000000000000 := by
 suffices h : (DT p inp m).trace.length ≤ 20000 ∧ ∀ s ∈ (DT p inp m).trace, s.size ≤ 1099511627776 by
  refine ⟨h.1, ?_⟩
  have h1 := Qk h.2
  have h2 : Ad.bulk (DT p inp m) = Ad.bulk (DT p inp m).kind + Ad.bulk (DT p inp m).n + Ad.bulk (DT p inp m).trace + Ad.bulk (DT p inp m).steps + 1 := rfl
  have h3 : Ad.bulk (DT p inp m).kind = 1 := rfl
  have h4 : Ad.bulk (DT p inp m).n = 1 := rfl
  have h5 : Ad.bulk (DT p inp m).steps = 1 := rfl
  have h6 : Ad.bulk (DT p inp m).trace = ((DT p inp m).trace.map Ad.bulk).sum + 1 := rfl
  have h7 := Nat.mul_le_mul_right (1099511627776 + 1) h.1
  omega
 unfold DT
 split
 ·rename_i hb
  have hP := MI hx hb
  have hM : Fa m ≤ 20000 := by unfold Fa; omega
  generalize Fa m = M at *
  have hst : ES.ok p.nodes 1099511627776 M ⟨0, inp, [], [], 0, 0⟩ := ⟨Nat.zero_le _, Nat.le_refl _, Nat.le_refl _, hi, (fun v hv => by cases hv), (fun s hs => by cases hs), (show I64 0 from (by unfold I64; decide)), hl⟩
  have RO := BO hP.nodes hP.big (M + 1) 0 .nil ⟨0, inp, [], [], 0, 0⟩ hP.nodes.one (by rw [EE.ok]; trivial) (Nat.zero_le _) hst rfl (by simp)
  rw [Aco]
  have a1 := RO.ok.tr
  have a2 := RO.ok.steps
  exact ⟨by omega, fun s hs => by have := RO.ok.trs s hs; omega⟩
 ·exact ⟨Nat.zero_le _, fun s hs => by cases hs⟩
theorem WC {x : Int} (h : -9223372036854775808 ≤ x ∧ x ≤ 9223372036854775807) : I64 x := h
theorem WB {S : Nat → Prop} {w : World} {v : Value} {c : List Int} (h : VR S w mu0 v (.sl (c.map av))) : ∀ n ∈ c, -9223372036854775808 ≤ n ∧ n ≤ 9223372036854775807 := by
 intro i hi
 have hm : av i ∈ c.map av := List.mem_map.2 ⟨i, hi, rfl⟩
 obtain ⟨u, hu⟩ := S0 h hm (x := .int .i64 i) (by rw [Bo]; simp [AV.cells])
 exact Adj hu
end Go.Proofs.YtjbcnilllfaipaaGreat
set_option linter.unusedVariables false
set_option maxRecDepth 100000
namespace Go.Proofs.YtjbcnilllfaipaaGreat
open Go.Proofs.YtjbcnilllfaipaaGreat.Av

theorem P4 : Tryz.prog.follows .mixedOrders = true := by kernel_rfl

def GC : Ir Tryz.prog 3 [(21, 7777), (31, 7777), (33, 7777), (37, 7777), (54, 7777), (57, 7777), (68, 7777), (82, 7777)] [] 3 := ⟨_, _, Tryz.func3, P4, by kernel_rfl, Ag [] Tryz.progTables (by conv => lhs; cbv) (by kernel_rfl)⟩
end Go.Proofs.YtjbcnilllfaipaaGreat
set_option linter.unusedVariables false
set_option maxRecDepth 100000
namespace Go.Proofs.YtjbcnilllfaipaaGreat
open Go.Proofs.YtjbcnilllfaipaaGreat.Av

theorem Mn : Tryz.prog.follows .mixedOrders = true := by kernel_rfl

def Iy : Ir Tryz.prog 7 [] [9999] 1 := ⟨_, _, Tryz.func7, Mn, by kernel_rfl, Ag [] Tryz.progTables (by conv => lhs; cbv) (by kernel_rfl)⟩
def IC : Ir Tryz.prog 13 [] [9999] 2 := ⟨_, _, Tryz.func13, Mn, by kernel_rfl, Ag [] Tryz.progTables (by conv => lhs; cbv) (by kernel_rfl)⟩
end Go.Proofs.YtjbcnilllfaipaaGreat
set_option linter.unusedVariables false
set_option linter.unusedSimpArgs false
set_option maxRecDepth 100000
namespace Go.Proofs.YtjbcnilllfaipaaGreat
open Go.RowKit Go.Proofs.YtjbcnilllfaipaaGreat.Av Go.Proofs.YtjbcnilllfaipaaGreat.Ml
open Go.Proofs.YtjbcnilllfaipaaGreat.Av.AVal (av)
open OVal (ov oh on)
open Mk (mkv cnt)

theorem KX (nm : Nat) (l : List Int) (hx : Ad.bulk l ≤ 1099511627776) : Ay Tryz.prog 7 [.sl (l.map av)] [] (Fu nm l) := by
 have hl := Ao l
 refine Iy.H rfl ?_
 simp +contextual -dsimp only [↓SD, SU, simprocAttr, Iy, Aa]
 refine ⟨by omega, fun v => ?_⟩
 refine Al (X := Nat × (Nat → Nat)) (fun x => ⟨[(0, .sl (l.map av)), (3, .row 7 v l.length), (4, .int .i64 x.1)], (7, ⟨v, false, 3, 1, FD l (AV.int .i64 0) x.1⟩) :: []⟩) (fun x => x.1 ≤ l.length) (fun x => l.length - x.1) (0, fun _ => 0) (Nat.zero_le _) (by simp +contextual -dsimp only [↓SD, SU, simprocAttr]) (by simp +contextual -dsimp only [↓SD, SU, simprocAttr, Eg]) ?_
 rintro ⟨k, vs⟩ hk
 dsimp only at hk ⊢
 by_cases hlt : k < l.length
 ·have e := getD_map av l k .top hlt
  have hbk : Ad.bulk l[k] ≤ 1099511627776 := by have := AW (List.getElem_mem hlt); omega
  have e1 := Cv (AV.int .i64 0) hk
  have e2 := EO (AV.int .i64 0) hlt .top
  have e3 := EN (z := (AV.int .i64 0)) hlt rfl
  rw [Bo] at e3
  simp +contextual -dsimp only [↓SD, SU, simprocAttr, Aa, hlt, e, Bo, e1, e2, e3]
  refine ⟨by omega, Af.le ⟨(k + 1, vs), ⟨hlt, (by first | omega | (simp only; omega))⟩, rfl⟩ (by simp +contextual -dsimp only [↓SD, SU, simprocAttr, Int.natCast_add]) (by simp +contextual -dsimp only [↓SD, SU, simprocAttr, e2, e3])⟩
 ·obtain rfl : k = l.length := by omega
  simp +contextual -dsimp only [↓SD, SU, simprocAttr, Aa, Nat.lt_irrefl, Eh]
  refine Af.ren 2 7 nm (v := v) (n := l.length) rfl Cj rfl fun v' => ?_
  refine Af.post (oh nm (fun _ => v') l) ?_
  rw [NV (fun _ _ _ => rfl) (fun _ _ _ => rfl)]
  simp +contextual -dsimp only [↓SD, SU, simprocAttr, Cj, Dt, Mb]
  exact ⟨rfl, _, rfl, (NV (fun _ _ _ => rfl) (fun _ _ _ => rfl) nm (fun _ => v') l).symm⟩

set_option maxHeartbeats 1000000 in
theorem I1 (nm : Nat) (vs : Nat → Nat) (l : List Int) (k : Int) (h0 : 1 ≤ k) (h1 : k + (Ad.bulk l : Int) ≤ 4611686018427387904) : Ay Tryz.prog 13 [ov nm vs l, .int .i64 k] (oh nm vs l) (Fg nm vs k l) := by
 refine IC.H rfl ?_
 simp +contextual -dsimp only [↓SD, SU, simprocAttr, IC, AO]
 refine Al (X := Nat) (fun i => ⟨[(0, .row nm (vs nm) l.length), (1, .int .i64 (k + (BG (l.take i) : Int))), (5, .int .i64 i)], oh nm vs (BD k l i)⟩) (fun i => i ≤ l.length) (fun i => l.length - i) 0 (Nat.zero_le _) (by simp +contextual -dsimp only [↓SD, SU, simprocAttr, List.take_zero, FV, Int.natCast_zero, Int.add_zero]) (by rw [Fy]; exact OVal.self _ _ _) ?_
 rintro i hi
 by_cases hlt : i < l.length
 ·have hLi : i < (BD k l i).length := by rw [Dg hi]; exact hlt
  have hLl : (BD k l i).length = l.length := Dg hi
  have hgi := Gh hlt hLi
  have hsf := Gg (k := k) hlt
  have hroom := Ei hlt
  have htake := EP hlt
  have hle := HP l (i + 1)
  have e := Ht nm vs (BD k l i) hLi .top
  rw [hgi] at e
  have hr := DW nm vs (BD k l i)
  rw [show ∀ x : Int, ov (sub nm i) vs x = av x from fun _ => rfl, Bo] at e
  have hlen : (ovL nm vs 0 (BD k l i)).length = l.length := by rw [EI, hLl]
  obtain ⟨x, hx⟩ : ∃ x, x = l[i] := ⟨_, rfl⟩
  obtain ⟨K, hK⟩ : ∃ K, K = k + (BG (l.take i) : Int) := ⟨_, rfl⟩
  try rw [← hx] at e
  try rw [← hx] at hroom
  try rw [← hx] at htake
  rw [← hx] at hsf
  rw [← hK] at hsf
  rw [FZ] at hr
  obtain ⟨E, hE⟩ : ∃ E, E = ovL nm vs 0 (BD k l i) := ⟨_, rfl⟩
  have hcount : cnt x = 1 := rfl
  rw [hcount] at htake
  have hbx : Ad.bulk x = 1 := rfl
  have hbl := Ao l
  have hKn : k + (BG (l.take (i + 1)) : Int) = K + 1 := by rw [htake]; omega
  have hKb : K + (Ad.bulk x : Int) ≤ 4611686018427387904 := by omega
  have hK1 : 1 ≤ K := by omega
  have hmk : ov (sub nm i) vs (mkv K x) = AV.int .i64 K := by rfl
  have hus : ovL nm vs 0 ((BD k l i).set i (mkv K x)) = E.set i (AV.int .i64 K) := by rw [Hs, hmk, ← hE]
  rw [← hE] at e hlen hr
  rw [← hK]
  have gs : ∀ a, (E.set i a).getD i .top = a := fun a => by rw [List.getD_eq_getElem?_getD, List.getElem?_set_self (by rw [hlen]; exact hlt)]; rfl
  have ls : ∀ a, (E.set i a).length = l.length := fun a => by rw [List.length_set, hlen]
  obtain ⟨H, hH⟩ : ∃ H, H = oh nm vs (BD k l i) := ⟨_, rfl⟩
  rw [← hH] at hr
  have hq : ∀ q, ¬ InT (sub nm i) q → q ≠ nm → Aw H q = Aw (oh nm vs (BD k l i)) q := fun q _ _ => by rw [hH]
  rw [show (AVal.n Int) = 1 from rfl] at hr
  rw [← hH]
  clear hH
  simp +contextual -dsimp only [↓SD, SU, simprocAttr, hlt, hlen, e, gs, ls, List.set_set, AO, hr]
  repeat (refine And.intro (by omega) ?_)
  refine Af.le ⟨i + 1, ⟨hlt, (by first | omega | (simp only; omega))⟩, rfl⟩ (by simp +contextual -dsimp only [↓SD, SU, simprocAttr, Int.natCast_add, hKn]) ?_
  rw [← hsf]
  refine JY hLi ?_ ?_ ?_
  ·repeat (first | exact hq | refine DN ?_)
  ·rw [FZ, hus]; first | exact Cj | exact hr
  ·exact trivial
 ·obtain rfl : i = l.length := by omega
  rw [Fz, ER]
  have hr := DW nm vs (mkL k l)
  have hs := OVal.self nm vs (mkL k l)
  obtain ⟨H, hH⟩ : ∃ H, H = oh nm vs (mkL k l) := ⟨_, rfl⟩
  rw [← hH]
  simp +contextual -dsimp only [↓SD, SU, simprocAttr, Nat.lt_irrefl, Aa]
  refine Af.post H ?_
  simp +contextual -dsimp only [↓SD, SU, simprocAttr]
  exact ⟨by rw [hH]; exact hs, rfl, by rw [hH]; rfl⟩

end Go.Proofs.YtjbcnilllfaipaaGreat
set_option linter.unusedVariables false
set_option maxRecDepth 100000
namespace Go.Proofs.YtjbcnilllfaipaaGreat
open Go.Proofs.YtjbcnilllfaipaaGreat.Av

theorem BU : Tryz.prog.follows .mixedOrders = true := by kernel_rfl

def Gt : Ir Tryz.prog 158 [] [9999] 1 := ⟨_, _, Tryz.func158, BU, by kernel_rfl, Ag [] Tryz.progTables (by conv => lhs; cbv) (by kernel_rfl)⟩
def Gv : Ir Tryz.prog 109 [] [9999] 2 := ⟨_, _, Tryz.func109, BU, by kernel_rfl, Ag [] Tryz.progTables (by conv => lhs; cbv) (by kernel_rfl)⟩
def J3 : Ir Tryz.prog 141 [(6, 7777)] [9999] 1 := ⟨_, _, Tryz.func141, BU, by kernel_rfl, Ag [] Tryz.progTables (by conv => lhs; cbv) (by kernel_rfl)⟩
def Jt : Ir Tryz.prog 120 [(12, 7777)] [9999] 1 := ⟨_, _, Tryz.func120, BU, by kernel_rfl, Ag [] Tryz.progTables (by conv => lhs; cbv) (by kernel_rfl)⟩
def Iz : Ir Tryz.prog 83 [(20, 7777)] [9999] 1 := ⟨_, _, Tryz.func83, BU, by kernel_rfl, Ag [] Tryz.progTables (by conv => lhs; cbv) (by kernel_rfl)⟩
def ID : Ir Tryz.prog 62 [(36, 7777)] [9999] 2 := ⟨_, _, Tryz.func62, BU, by kernel_rfl, Ag [] Tryz.progTables (by conv => lhs; cbv) (by kernel_rfl)⟩
def It : Ir Tryz.prog 47 [(12, 7777)] [9999] 1 := ⟨_, _, Tryz.func47, BU, by kernel_rfl, Ag [] Tryz.progTables (by conv => lhs; cbv) (by kernel_rfl)⟩
def Hw : Ir Tryz.prog 21 [(20, 7777)] [9999] 1 := ⟨_, _, Tryz.func21, BU, by kernel_rfl, Ag [] Tryz.progTables (by conv => lhs; cbv) (by kernel_rfl)⟩
def HB : Ir Tryz.prog 30 [(33, 7777)] [9999] 2 := ⟨_, _, Tryz.func30, BU, by kernel_rfl, Ag [] Tryz.progTables (by conv => lhs; cbv) (by kernel_rfl)⟩
def Ix : Ir Tryz.prog 48 [(18, 7777), (22, 7777)] [9999] 1 := ⟨_, _, Tryz.func48, BU, by kernel_rfl, Ag [] Tryz.progTables (by conv => lhs; cbv) (by kernel_rfl)⟩
def HA : Ir Tryz.prog 22 [(20, 7777)] [9999] 1 := ⟨_, _, Tryz.func22, BU, by kernel_rfl, Ag [] Tryz.progTables (by conv => lhs; cbv) (by kernel_rfl)⟩
def HC : Ir Tryz.prog 31 [(47, 7777), (54, 7777)] [9999] 2 := ⟨_, _, Tryz.func31, BU, by kernel_rfl, Ag [] Tryz.progTables (by conv => lhs; cbv) (by kernel_rfl)⟩
def Gu : Ir Tryz.prog 6 [(10, 7777), (6, 7777)] [9999] 1 := ⟨_, _, Tryz.func6, BU, by kernel_rfl, Ag [] Tryz.progTables (by conv => lhs; cbv) (by kernel_rfl)⟩
def Gx : Ir Tryz.prog 12 [(12, 7777), (8, 7777)] [9999] 2 := ⟨_, _, Tryz.func12, BU, by kernel_rfl, Ag [] Tryz.progTables (by conv => lhs; cbv) (by kernel_rfl)⟩
end Go.Proofs.YtjbcnilllfaipaaGreat
set_option linter.unusedVariables false
set_option maxRecDepth 100000
namespace Go.Proofs.YtjbcnilllfaipaaGreat
open Go.Proofs.YtjbcnilllfaipaaGreat.Av

theorem EM : Tryz.prog.follows .mixedOrders = true := by kernel_rfl

def Hz : Ir Tryz.prog 159 [(15, 7777)] [9999] 1 := ⟨_, _, Tryz.func159, EM, by kernel_rfl, Ag [] Tryz.progTables (by conv => lhs; cbv) (by kernel_rfl)⟩
def G8 : Ir Tryz.prog 142 [(20, 7777)] [9999] 1 := ⟨_, _, Tryz.func142, EM, by kernel_rfl, Ag [] Tryz.progTables (by conv => lhs; cbv) (by kernel_rfl)⟩
def Ha : Ir Tryz.prog 110 [(40, 7777)] [9999] 2 := ⟨_, _, Tryz.func110, EM, by kernel_rfl, Ag [] Tryz.progTables (by conv => lhs; cbv) (by kernel_rfl)⟩
def Jq : Ir Tryz.prog 121 [(6, 7777)] [9999] 1 := ⟨_, _, Tryz.func121, EM, by kernel_rfl, Ag [] Tryz.progTables (by conv => lhs; cbv) (by kernel_rfl)⟩
def Iv : Ir Tryz.prog 84 [(20, 7777)] [9999] 1 := ⟨_, _, Tryz.func84, EM, by kernel_rfl, Ag [] Tryz.progTables (by conv => lhs; cbv) (by kernel_rfl)⟩
def IB : Ir Tryz.prog 63 [(18, 7777)] [9999] 2 := ⟨_, _, Tryz.func63, EM, by kernel_rfl, Ag [] Tryz.progTables (by conv => lhs; cbv) (by kernel_rfl)⟩
end Go.Proofs.YtjbcnilllfaipaaGreat
