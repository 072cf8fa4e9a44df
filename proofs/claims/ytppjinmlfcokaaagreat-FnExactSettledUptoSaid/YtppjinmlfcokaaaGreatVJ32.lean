/-
 VERSIONS OF PARTS BY RANGES OF THEIR INDICES. Conditions: none.
-/
import Derived.Test.YtppjinmlfcokaaaGreatVAvRen
import Derived.Test.YtppjinmlfcokaaaGreatProg
import Derived.Test.YtppjinmlfcokaaaGreatVAvDraw
import Derived.Test.YtppjinmlfcokaaaGreatVJ07
import Derived.Test.YtppjinmlfcokaaaGreatVJ23
import Derived.Test.YtppjinmlfcokaaaGreatVJ08
import Derived.Test.YtppjinmlfcokaaaGreatVGProg
set_option linter.unusedVariables false
set_option linter.unusedSimpArgs false
namespace Go.Proofs.YtppjinmlfcokaaaGreat
open Go.RowKit Go.Proofs.YtppjinmlfcokaaaGreat.Av
open Go.Proofs.YtppjinmlfcokaaaGreat.Av.AVal (av)
open OVal (ov oh on)

open Classical in
noncomputable def Lw (nm m : Nat) (vs vs' : Nat → Nat) : Nat → Nat := fun k => if ∃ i, m ≤ i ∧ InT (sub nm i) k then vs k else vs' k
section
variable {α : Type} [AVal α] [OVal α]
theorem Qj {nm m : Nat} (vs vs' : Nat → Nat) : ∀ (i : Nat) (l : List α), m ≤ i → ovL nm (Lw nm m vs vs') i l = ovL nm vs i l ∧ ohL nm (Lw nm m vs vs') i l = ohL nm vs i l
 | _, [], _ => ⟨rfl, rfl⟩
 | i, e :: r, h => by
  obtain ⟨a, b⟩ := Qj (nm := nm) (m := m) vs vs' (i + 1) r (by omega)
  obtain ⟨c, d⟩ := OVal.FN (sub nm i) (Lw nm m vs vs') vs e (fun k hk => if_pos ⟨i, h, hk⟩)
  simp only [ovL, ohL, a, b, c, d, and_self]
theorem We {nm m : Nat} (vs vs' : Nat → Nat) : ∀ (i : Nat) (l : List α), i + l.length ≤ m → ovL nm (Lw nm m vs vs') i l = ovL nm vs' i l ∧ ohL nm (Lw nm m vs vs') i l = ohL nm vs' i l
 | _, [], _ => ⟨rfl, rfl⟩
 | i, e :: r, h => by
  simp only [List.length_cons] at h
  obtain ⟨a, b⟩ := We (nm := nm) (m := m) vs vs' (i + 1) r (by omega)
  obtain ⟨c, d⟩ := OVal.FN (sub nm i) (Lw nm m vs vs') vs' e (fun k hk => if_neg (fun ⟨j, hj, hk'⟩ => by have := hk.sib hk'; omega))
  simp only [ovL, ohL, a, b, c, d, and_self]
theorem AbR {nm : Nat} (vs vs' : Nat → Nat) (i : Nat) (a b : List α) : ovL nm (Lw nm (i + a.length) vs vs') i (a ++ b) = ovL nm vs' i a ++ ovL nm vs (i + a.length) b ∧ ohL nm (Lw nm (i + a.length) vs vs') i (a ++ b) = ohL nm vs' i a ++ ohL nm vs (i + a.length) b := by
 have h1 := We (α := α) (nm := nm) (m := i + a.length) vs vs' i a (Nat.le_refl _)
 have h2 := Qj (α := α) (nm := nm) (m := i + a.length) vs vs' (i + a.length) b (Nat.le_refl _)
 rw [Mj, OQ, h1.1, h1.2, h2.1, h2.2]
 exact ⟨rfl, rfl⟩
theorem Abz {nm m i : Nat} {vs vs' : Nat → Nat} {a b : List α} {s : Hp} (hm : i + a.length ≤ m) (hs : ∀ p ∈ ohL nm vs' i a, Ao s p.1 = some p.2) : AR (ohL nm vs m b ++ s) (ohL nm vs' i a ++ ohL nm vs m b) := by
 rw [AF]
 refine ⟨AL.2 fun p hp => ?_, Cj (Dc nm vs m b)⟩
 obtain ⟨q, hq, hin⟩ := H7 hp
 have hn : ∀ r ∈ ohL nm vs m b, r.1 ≠ p.1 := fun r hr e => by
  obtain ⟨j, hj, h2⟩ := DY hr
  rw [e] at h2
  have := h2.sib (OVal.inh hin)
  omega
 rw [Cx hn]
 exact hs p hp
end
theorem AeO {α : Type} [AVal α] [OVal α] {nm i q : Nat} {vs : Nat → Nat} {l : List α} (h : q < 10000) : Ao (ohL nm vs i l) q = none := TM fun p hp e => by
 obtain ⟨j, _, hj⟩ := DY hp
 have := hj.ge
 omega
end Go.Proofs.YtppjinmlfcokaaaGreat
set_option linter.unusedVariables false
set_option maxRecDepth 100000
namespace Go.Proofs.YtppjinmlfcokaaaGreat
open Go.Proofs.YtppjinmlfcokaaaGreat.Av

theorem C9 : Tryz.prog.follows .mixedOrders = true := by kernel_rfl

def DG : Ir Tryz.prog 133 [(4,7776)] [9999] 1 := ⟨_, _, Tryz.func133, C9, by kernel_rfl, Aj [] Tryz.progTables (by conv => lhs; cbv) (by kernel_rfl)⟩
def CZ : Ir Tryz.prog 134 [(4,7776)] [9999] 1 := ⟨_, _, Tryz.func134, C9, by kernel_rfl, Aj [] Tryz.progTables (by conv => lhs; cbv) (by kernel_rfl)⟩
def C6 : Ir Tryz.prog 172 [(4,7776)] [9999] 1 := ⟨_, _, Tryz.func172, C9, by kernel_rfl, Aj [] Tryz.progTables (by conv => lhs; cbv) (by kernel_rfl)⟩
def Fa : Ir Tryz.prog 173 [(4,7776)] [9999] 1 := ⟨_, _, Tryz.func173, C9, by kernel_rfl, Aj [] Tryz.progTables (by conv => lhs; cbv) (by kernel_rfl)⟩
def Ip : Ir Tryz.prog 135 [(23, 7777), (8, 7777)] [9999] 1 := ⟨_, _, Tryz.func135, C9, by kernel_rfl, Aj [10005] Tryz.progTables (by conv => lhs; cbv) (by kernel_rfl)⟩
def HO : Ir Tryz.prog 68 [(15, 7777)] [9999] 1 := ⟨_, _, Tryz.func68, C9, by kernel_rfl, Aj [] Tryz.progTables (by conv => lhs; cbv) (by kernel_rfl)⟩
def G9 : Ir Tryz.prog 67 [(17, 7777), (33, 7777)] [9999] 1 := ⟨_, _, Tryz.func67, C9, by kernel_rfl, Aj [10009] Tryz.progTables (by conv => lhs; cbv) (by kernel_rfl)⟩
def HN : Ir Tryz.prog 66 [(18,7775),(22,7775),(26,7775),(30,7775),(34,7775),(38,29),(39,30),(59,30), (35, 7777), (52, 7777)] [9999, 11] 2 := ⟨_, _, Tryz.func66, C9, by kernel_rfl, Aj [] Tryz.progTables (by conv => lhs; cbv) (by kernel_rfl)⟩
def G8 : Ir Tryz.prog 32 [(13, 7777), (9, 7777)] [9999] 2 := ⟨_, _, Tryz.func32, C9, by kernel_rfl, Aj [] Tryz.progTables (by conv => lhs; cbv) (by kernel_rfl)⟩
end Go.Proofs.YtppjinmlfcokaaaGreat
set_option linter.unusedVariables false
set_option maxRecDepth 100000
set_option linter.unusedVariables false
set_option maxRecDepth 100000
set_option linter.unusedVariables false
set_option maxRecDepth 100000
set_option linter.unusedVariables false
set_option maxRecDepth 100000
set_option linter.unusedVariables false
set_option linter.unusedSimpArgs false
set_option maxRecDepth 100000
namespace Go.Proofs.YtppjinmlfcokaaaGreat
open Go.RowKit Go.Proofs.YtppjinmlfcokaaaGreat.Av Go.Proofs.YtppjinmlfcokaaaGreat.Ml
open Go.Proofs.YtppjinmlfcokaaaGreat.Av.AVal (av)
open OVal (ov oh on)

def R4 (k : Int) : ByteArray := ⟨#[109]⟩ ++ M3 k.toNat
class Mk (α : Type) where
 mkv : Int → α → α
 cnt : α → Nat
open Mk (mkv cnt)
instance : Mk Int := ⟨fun k _ => k, fun _ => 1⟩
instance : Mk ByteArray := ⟨fun k _ => R4 k, fun _ => 1⟩
section
variable {α : Type} [Mk α]
def mkL : Int → List α → List α
 | _, [] => []
 | k, x :: r => mkv k x :: mkL (k + (cnt x : Int)) r
def GW : List α → Nat
 | [] => 0
 | x :: r => cnt x + GW r
instance : Mk (List α) := ⟨mkL, GW⟩
theorem AdP (l : List α) : cnt l = GW l := rfl
end
class MkB (α : Type) [Mk α] [Ac α] : Prop where
 le : ∀ x : α, cnt x ≤ Ac.bulk x
instance : MkB Int := ⟨fun _ => Nat.le_refl _⟩
instance : MkB ByteArray := ⟨fun s => by show 1 ≤ s.size + 1; omega⟩
theorem D8 {α : Type} [Mk α] [Ac α] [MkB α] : ∀ l : List α, GW l + 1 ≤ Ac.bulk l
 | [] => by simp [GW, Ac.bulk]
 | x :: r => by
  have h1 := MkB.le x
  have h2 := D8 r
  simp only [GW, Ac.bulk, List.map_cons, List.sum_cons] at h1 h2 ⊢
  omega
instance {α : Type} [Mk α] [Ac α] [MkB α] : MkB (List α) := ⟨fun l => by have := D8 l; rw [AdP]; omega⟩
/-! lending -/
section
variable {α : Type} [AVal α] [OVal α]
theorem Zy {x : AV} (h : x.ok = true) (hp : Hp) (hf : ∀ f cs, x ≠ .fn f cs) : x.Cb hp = x.pur hp := by
 cases x <;> first | rfl | exact absurd rfl (hf _ _)
theorem ZJ (nm : Nat) (vs : Nat → Nat) (y : α) : ∀ f cs, ov nm vs y ≠ .fn f cs := fun f cs h => by
 have := OVal.J2 nm vs y (.fn f cs) (by rw [h]; simp [AV.cells])
 simp [AV.GS] at this
theorem Z4 {nm : Nat} {vs : Nat → Nat} {y : α} {H : Hp} (h : AR H (oh nm vs y)) : (ov nm vs y).Cb (BZ (on nm y) H) = av y := by
 rw [Zy (OVal.ok _ _ _) _ (ZJ nm vs y), OVal.HW nm vs y H h]
theorem HH {x : AV} {nm : Nat} {vs : Nat → Nat} {y : α} {H : Hp} (e : x = ov nm vs y) (h : AR H (oh nm vs y)) : x.Cb (BZ (on nm y) H) = av y := by rw [e]; exact Z4 h
theorem AfQ {β : Type} [AVal β] [OVal β] {n0 n1 : Nat} {v0 : Nat → Nat} {y0 : α} {y1 : β} {H : Hp} (h : AR H (oh n0 v0 y0)) (hn : ∀ k, InT n0 k → ¬ InT n1 k) : (ov n0 v0 y0).Cb (BZ (on n0 y0 ++ on n1 y1) H) = av y0 := by
 rw [Zy (OVal.ok _ _ _) _ (ZJ n0 v0 y0), D5, OVal.dep n0 v0 y0 _ (BZ (on n0 y0) H) (fun k hk => BJ (Gm (hn k hk))), OVal.HW n0 v0 y0 H h]
theorem AfP {β : Type} [AVal β] [OVal β] {n0 n1 : Nat} {v1 : Nat → Nat} {y0 : β} {y1 : α} {H : Hp} (h : AR H (oh n1 v1 y1)) (hn : ∀ k, InT n1 k → ¬ InT n0 k) : (ov n1 v1 y1).Cb (BZ (on n0 y0 ++ on n1 y1) H) = av y1 := by
 rw [D5]
 exact Z4 (I5 (fun p hp => Gm (hn _ (OVal.inh hp))) h)
theorem AcS (nm : Nat) (vs : Nat → Nat) (y : α) : (ov nm vs y).MX = true := by
 have h := OVal.J2 nm vs y
 have h2 := OVal.ok nm vs y
 generalize ov nm vs y = x at *
 cases x <;> first | (simp only [AV.MX, List.all_eq_true]; exact h) | (have h3 := h _ (List.Mem.head _); exact h3) | (simp [AV.ok, AV.one, AV.isAgg] at h2; done)
theorem K2 (nm : Nat) (vs : Nat → Nat) (y : α) : (ov nm vs y).free = true := by
 have h := AcS nm vs y
 have h2 := OVal.ok nm vs y
 generalize ov nm vs y = x at *
 cases x <;> first | exact h | (simp [AV.ok, AV.one, AV.isAgg] at h2; done)
theorem IL (nm : Nat) (vs : Nat → Nat) (y : α) : GR (oh nm vs y) := fun k bx h => OVal.free nm vs y (k, bx) (Ys h)
end
theorem FM {P : Go.Program} {f : FuncId} {args args' : List AV} {hp : Hp} {k : AV → Hp → Prop} {Post : AV → Hp → Prop} (ks : List Nat) (h : Bu P f args' [] Post) {kp : DH k} (he : args.map (AV.Cb (BZ ks hp)) = args') (hk : ∀ r hp', Post r hp' → (r.free = true ∧ GR hp') ∧ ∀ H, H = hp' ++ hp → k r H) : Bd2 (fun k => Lc P f args hp k) k kp :=
 YS ks h he fun r hp' hpst => ⟨(hk r hp' hpst).1, (hk r hp' hpst).2 _ rfl⟩
theorem A3 {f : AV → AV} {x y : AV} {xs ys : List AV} (h1 : f x = y) (h2 : xs.map f = ys) : (x :: xs).map f = y :: ys := by rw [List.map_cons, h1, h2]
section
variable {α β : Type} [AVal α] [OVal α] [AVal β] [OVal β]
end
structure TS where
 m : Nat
 s : ByteArray
end Go.Proofs.YtppjinmlfcokaaaGreat
set_option linter.unusedVariables false
set_option linter.unusedSimpArgs false
set_option maxRecDepth 100000
set_option linter.unusedVariables false
set_option linter.unusedSimpArgs false
set_option maxRecDepth 100000
namespace Go.Proofs.YtppjinmlfcokaaaGreat
open Go.RowKit Go.Proofs.YtppjinmlfcokaaaGreat.Av Go.Proofs.YtppjinmlfcokaaaGreat.Ml
open Go.Proofs.YtppjinmlfcokaaaGreat.Av.AVal (av)
open OVal (ov oh on)
open Mk (mkv cnt)

instance : OVal Bg where
 ty := 96
 ov nm vs x := .agg [.int .i64 x.kind, .int .i64 x.n, .str x.s, ov (sub nm 0) vs x.kids]
 oh nm vs x := oh (sub nm 0) vs x.kids
 on nm x := on (sub nm 0) x.kids
 names nm vs x := OVal.names _ _ _
 inn nm x k h := (OVal.inn _ _ _ h).up
 self nm vs x := OVal.self _ _ _
 FN nm vs vs' x h := by
  obtain ⟨a0, b0⟩ := OVal.FN (sub nm 0) vs vs' x.kids (fun k hk => h k hk.up)
  simp only [a0, b0, and_self]
 HW nm vs x hp h := by
  have h0 := OVal.HW (sub nm 0) vs x.kids hp h
  show AV.agg [.int .i64 x.kind, .int .i64 x.n, .str x.s, (ov (sub nm 0) vs x.kids).pur (BZ (on (sub nm 0) x.kids) hp)] = av x
  rw [h0]; rfl
 dep nm vs x hp hp' h := by
  have h0 := OVal.dep (sub nm 0) vs x.kids hp hp' (fun k hk => h k hk.up)
  show AV.agg [.int .i64 x.kind, .int .i64 x.n, .str x.s, (ov (sub nm 0) vs x.kids).pur hp] = AV.agg [.int .i64 x.kind, .int .i64 x.n, .str x.s, (ov (sub nm 0) vs x.kids).pur hp']
  rw [h0]
 free nm vs x p h := by exact OVal.free _ _ _ p h
 J2 nm vs x y hx := by
  simp only [AV.cells, List.mem_cons, List.not_mem_nil, or_false] at hx
  rcases hx with rfl | rfl | rfl | rfl <;> rfl
 ok _ _ _ := rfl
 agg _ _ _ := rfl
 len _ _ _ := rfl
theorem Vp (nm : Nat) (vs : Nat → Nat) (x : Bg) : ov nm vs x = .agg [.int .i64 x.kind, .int .i64 x.n, .str x.s, .row (sub nm 0) (vs (sub nm 0)) x.kids.length] := eqq rfl
theorem VB (nm : Nat) (vs : Nat → Nat) (x : Bg) : oh nm vs x = oh (sub nm 0) vs x.kids := rfl

instance : Mk Bg := ⟨fun k x => ⟨k, k + 1, R4 (k + 1 + 1), mkL (k + 1 + 1 + 1) x.kids⟩, fun x => 3 + GW x.kids⟩
theorem Ab1 (x : Bg) : cnt x = 3 + GW x.kids := rfl
instance : MkB Bg := ⟨fun x => by
 have hbx : Ac.bulk x = Ac.bulk x.kind + Ac.bulk x.n + Ac.bulk x.s + Ac.bulk x.kids + 1 := rfl
 have hbx_0 : Ac.bulk x.kind = 1 := rfl
 have hbx_1 : Ac.bulk x.n = 1 := rfl
 have hbx_2 : Ac.bulk x.s = x.s.size + 1 := rfl
 have hbx_3 := D8 x.kids
 rw [Ab1]
 omega⟩

instance : OVal Pat where
 ty := 86
 ov nm vs x := .agg [ov (sub nm 0) vs x.nodes]
 oh nm vs x := oh (sub nm 0) vs x.nodes
 on nm x := on (sub nm 0) x.nodes
 names nm vs x := OVal.names _ _ _
 inn nm x k h := (OVal.inn _ _ _ h).up
 self nm vs x := OVal.self _ _ _
 FN nm vs vs' x h := by
  obtain ⟨a0, b0⟩ := OVal.FN (sub nm 0) vs vs' x.nodes (fun k hk => h k hk.up)
  simp only [a0, b0, and_self]
 HW nm vs x hp h := by
  have h0 := OVal.HW (sub nm 0) vs x.nodes hp h
  show AV.agg [(ov (sub nm 0) vs x.nodes).pur (BZ (on (sub nm 0) x.nodes) hp)] = av x
  rw [h0]; rfl
 dep nm vs x hp hp' h := by
  have h0 := OVal.dep (sub nm 0) vs x.nodes hp hp' (fun k hk => h k hk.up)
  show AV.agg [(ov (sub nm 0) vs x.nodes).pur hp] = AV.agg [(ov (sub nm 0) vs x.nodes).pur hp']
  rw [h0]
 free nm vs x p h := by exact OVal.free _ _ _ p h
 J2 nm vs x y hx := by
  simp only [AV.cells, List.mem_cons, List.not_mem_nil, or_false] at hx
  subst hx <;> rfl
 ok _ _ _ := rfl
 agg _ _ _ := rfl
 len _ _ _ := rfl
theorem Tv (nm : Nat) (vs : Nat → Nat) (x : Pat) : ov nm vs x = .agg [.row (sub nm 0) (vs (sub nm 0)) x.nodes.length] := eqq rfl
theorem X6 (nm : Nat) (vs : Nat → Nat) (x : Pat) : oh nm vs x = oh (sub nm 0) vs x.nodes := rfl

instance : Mk Pat := ⟨fun k x => ⟨mkL (k) x.nodes⟩, fun x => GW x.nodes⟩
theorem Ae0 (x : Pat) : cnt x = GW x.nodes := rfl
instance : MkB Pat := ⟨fun x => by
 have hbx : Ac.bulk x = Ac.bulk x.nodes + 1 := rfl
 have hbx_0 := D8 x.nodes
 rw [Ae0]
 omega⟩

end Go.Proofs.YtppjinmlfcokaaaGreat
set_option linter.unusedVariables false
set_option linter.unusedSimpArgs false
set_option maxRecDepth 100000
namespace Go.Proofs.YtppjinmlfcokaaaGreat
open Go.RowKit Go.Proofs.YtppjinmlfcokaaaGreat.Av Go.Proofs.YtppjinmlfcokaaaGreat.Ml
open Go.Proofs.YtppjinmlfcokaaaGreat.Av.AVal (av)
open OVal (ov oh on)
open Mk (mkv cnt)

instance : OVal AY := Yv 136 (fun y x hx => by
 rw [A5] at hx
 simp only [AV.cells, List.mem_cons, List.not_mem_nil, or_false] at hx
 rcases hx with rfl | rfl | rfl <;> rfl)

instance : Mk AY := ⟨fun k x => ⟨k, R4 (k + 1), k + 1 + 1⟩, fun x => 3⟩
theorem YC (x : AY) : cnt x = 3 := rfl
instance : MkB AY := ⟨fun x => by
 have hbx : Ac.bulk x = Ac.bulk x.var + Ac.bulk x.name + Ac.bulk x.arity + 1 := rfl
 have hbx_0 : Ac.bulk x.var = 1 := rfl
 have hbx_1 : Ac.bulk x.name = x.name.size + 1 := rfl
 have hbx_2 : Ac.bulk x.arity = 1 := rfl
 rw [YC]
 omega⟩

instance : OVal Ty where
 ty := 75
 ov nm vs x := .agg [ov (sub nm 0) vs x.items]
 oh nm vs x := oh (sub nm 0) vs x.items
 on nm x := on (sub nm 0) x.items
 names nm vs x := OVal.names _ _ _
 inn nm x k h := (OVal.inn _ _ _ h).up
 self nm vs x := OVal.self _ _ _
 FN nm vs vs' x h := by
  obtain ⟨a0, b0⟩ := OVal.FN (sub nm 0) vs vs' x.items (fun k hk => h k hk.up)
  simp only [a0, b0, and_self]
 HW nm vs x hp h := by
  have h0 := OVal.HW (sub nm 0) vs x.items hp h
  show AV.agg [(ov (sub nm 0) vs x.items).pur (BZ (on (sub nm 0) x.items) hp)] = av x
  rw [h0]; rfl
 dep nm vs x hp hp' h := by
  have h0 := OVal.dep (sub nm 0) vs x.items hp hp' (fun k hk => h k hk.up)
  show AV.agg [(ov (sub nm 0) vs x.items).pur hp] = AV.agg [(ov (sub nm 0) vs x.items).pur hp']
  rw [h0]
 free nm vs x p h := by exact OVal.free _ _ _ p h
 J2 nm vs x y hx := by
  simp only [AV.cells, List.mem_cons, List.not_mem_nil, or_false] at hx
  subst hx <;> rfl
 ok _ _ _ := rfl
 agg _ _ _ := rfl
 len _ _ _ := rfl
instance : Mk Ty := ⟨fun k x => ⟨mkL (k) x.items⟩, fun x => GW x.items⟩
theorem AfS (x : Ty) : cnt x = GW x.items := rfl
instance : MkB Ty := ⟨fun x => by
 have hbx : Ac.bulk x = Ac.bulk x.items + 1 := rfl
 have hbx_0 := D8 x.items
 rw [AfS]
 omega⟩

instance : OVal Con where
 ty := 77
 ov nm vs x := .agg [.str x.name, .bool x.has, ov (sub nm 0) vs x.arg.items]
 oh nm vs x := oh (sub nm 0) vs x.arg.items
 on nm x := on (sub nm 0) x.arg.items
 names nm vs x := OVal.names _ _ _
 inn nm x k h := (OVal.inn _ _ _ h).up
 self nm vs x := OVal.self _ _ _
 FN nm vs vs' x h := by
  obtain ⟨a0, b0⟩ := OVal.FN (sub nm 0) vs vs' x.arg.items (fun k hk => h k hk.up)
  simp only [a0, b0, and_self]
 HW nm vs x hp h := by
  have h0 := OVal.HW (sub nm 0) vs x.arg.items hp h
  show AV.agg [.str x.name, .bool x.has, (ov (sub nm 0) vs x.arg.items).pur (BZ (on (sub nm 0) x.arg.items) hp)] = av x
  rw [h0]; rfl
 dep nm vs x hp hp' h := by
  have h0 := OVal.dep (sub nm 0) vs x.arg.items hp hp' (fun k hk => h k hk.up)
  show AV.agg [.str x.name, .bool x.has, (ov (sub nm 0) vs x.arg.items).pur hp] = AV.agg [.str x.name, .bool x.has, (ov (sub nm 0) vs x.arg.items).pur hp']
  rw [h0]
 free nm vs x p h := by exact OVal.free _ _ _ p h
 J2 nm vs x y hx := by
  simp only [AV.cells, List.mem_cons, List.not_mem_nil, or_false] at hx
  rcases hx with rfl | rfl | rfl <;> rfl
 ok _ _ _ := rfl
 agg _ _ _ := rfl
 len _ _ _ := rfl
theorem AfH (nm : Nat) (vs : Nat → Nat) (x : Con) : ov nm vs x = .agg [.str x.name, .bool x.has, .row (sub nm 0) (vs (sub nm 0)) x.arg.items.length] := eqq rfl
theorem AfI (nm : Nat) (vs : Nat → Nat) (x : Con) : oh nm vs x = oh (sub nm 0) vs x.arg.items := rfl

instance : Mk Con := ⟨fun k x => ⟨R4 (k), decide ((k + 1).tmod 3 = 0), ⟨mkL (k + 1 + 1) x.arg.items⟩⟩, fun x => 2 + GW x.arg.items⟩
theorem Ae1 (x : Con) : cnt x = 2 + GW x.arg.items := rfl
instance : MkB Con := ⟨fun x => by
 have hbx : Ac.bulk x = Ac.bulk x.name + Ac.bulk x.has + Ac.bulk x.arg + 1 := rfl
 have hbx_0 : Ac.bulk x.name = x.name.size + 1 := rfl
 have hbx_1 : Ac.bulk x.has = 1 := rfl
 have hbx_2 : Ac.bulk x.arg = Ac.bulk x.arg.items + 1 := rfl
 have hbx_2_0 := D8 x.arg.items
 rw [Ae1]
 omega⟩

instance : OVal BF where
 ty := 72
 ov nm vs x := .agg [.str x.name, .int .i64 x.params, ov (sub nm 0) vs x.cons]
 oh nm vs x := oh (sub nm 0) vs x.cons
 on nm x := on (sub nm 0) x.cons
 names nm vs x := OVal.names _ _ _
 inn nm x k h := (OVal.inn _ _ _ h).up
 self nm vs x := OVal.self _ _ _
 FN nm vs vs' x h := by
  obtain ⟨a0, b0⟩ := OVal.FN (sub nm 0) vs vs' x.cons (fun k hk => h k hk.up)
  simp only [a0, b0, and_self]
 HW nm vs x hp h := by
  have h0 := OVal.HW (sub nm 0) vs x.cons hp h
  show AV.agg [.str x.name, .int .i64 x.params, (ov (sub nm 0) vs x.cons).pur (BZ (on (sub nm 0) x.cons) hp)] = av x
  rw [h0]; rfl
 dep nm vs x hp hp' h := by
  have h0 := OVal.dep (sub nm 0) vs x.cons hp hp' (fun k hk => h k hk.up)
  show AV.agg [.str x.name, .int .i64 x.params, (ov (sub nm 0) vs x.cons).pur hp] = AV.agg [.str x.name, .int .i64 x.params, (ov (sub nm 0) vs x.cons).pur hp']
  rw [h0]
 free nm vs x p h := by exact OVal.free _ _ _ p h
 J2 nm vs x y hx := by
  simp only [AV.cells, List.mem_cons, List.not_mem_nil, or_false] at hx
  rcases hx with rfl | rfl | rfl <;> rfl
 ok _ _ _ := rfl
 agg _ _ _ := rfl
 len _ _ _ := rfl
theorem AcT (nm : Nat) (vs : Nat → Nat) (x : BF) : ov nm vs x = .agg [.str x.name, .int .i64 x.params, .row (sub nm 0) (vs (sub nm 0)) x.cons.length] := eqq rfl
theorem Ac4 (nm : Nat) (vs : Nat → Nat) (x : BF) : oh nm vs x = oh (sub nm 0) vs x.cons := rfl

instance : Mk BF := ⟨fun k x => ⟨R4 (k), k + 1, mkL (k + 1 + 1) x.cons⟩, fun x => 2 + GW x.cons⟩
theorem Ab0 (x : BF) : cnt x = 2 + GW x.cons := rfl
instance : MkB BF := ⟨fun x => by
 have hbx : Ac.bulk x = Ac.bulk x.name + Ac.bulk x.params + Ac.bulk x.cons + 1 := rfl
 have hbx_0 : Ac.bulk x.name = x.name.size + 1 := rfl
 have hbx_1 : Ac.bulk x.params = 1 := rfl
 have hbx_2 := D8 x.cons
 rw [Ab0]
 omega⟩

instance : OVal Node where
 ty := 49
 ov nm vs x := .agg [.int .i64 x.kind, .int .i64 x.pos, .int .i64 x.n, .str x.s, ov (sub nm 0) vs x.kids, ov (sub nm 1) vs x.Ae]
 oh nm vs x := oh (sub nm 0) vs x.kids ++ oh (sub nm 1) vs x.Ae
 on nm x := on (sub nm 0) x.kids ++ on (sub nm 1) x.Ae
 names nm vs x := by simp only [List.map_append, OVal.names]
 inn nm x k h := by rcases List.mem_append.1 h with h | h <;> exact (OVal.inn _ _ _ h).up
 self nm vs x := Lg (OVal.self _ _ _) (OVal.self _ _ _) fun p hp q hq e => by
  have h1 := OVal.inh hp
  have h2 := OVal.inh hq
  rw [e] at h2
  have := h1.sib h2
  omega
 FN nm vs vs' x h := by
  obtain ⟨a0, b0⟩ := OVal.FN (sub nm 0) vs vs' x.kids (fun k hk => h k hk.up)
  obtain ⟨a1, b1⟩ := OVal.FN (sub nm 1) vs vs' x.Ae (fun k hk => h k hk.up)
  simp only [a0, b0, a1, b1, and_self]
 HW nm vs x hp h := by
  rw [AF] at h
  have h0 := OVal.HW (sub nm 0) vs x.kids hp h.1
  have h1 := OVal.HW (sub nm 1) vs x.Ae (BZ (on (sub nm 0) x.kids) hp) (I5 (fun p hp => Gm (Dn (by omega) (OVal.inh hp))) h.2)
  rw [← D5] at h1
  have d0 : (ov (sub nm 0) vs x.kids).pur (BZ (on (sub nm 0) x.kids ++ on (sub nm 1) x.Ae) hp) = (ov (sub nm 0) vs x.kids).pur (BZ (on (sub nm 0) x.kids) hp) := OVal.dep _ _ _ _ _ fun k hk => by
   rw [D5, BJ (Gm (Dn (by omega) hk))]
  rw [← d0] at h0
  show AV.agg [.int .i64 x.kind, .int .i64 x.pos, .int .i64 x.n, .str x.s, (ov (sub nm 0) vs x.kids).pur (BZ (on (sub nm 0) x.kids ++ on (sub nm 1) x.Ae) hp), (ov (sub nm 1) vs x.Ae).pur (BZ (on (sub nm 0) x.kids ++ on (sub nm 1) x.Ae) hp)] = av x
  rw [h0, h1]; rfl
 dep nm vs x hp hp' h := by
  have h0 := OVal.dep (sub nm 0) vs x.kids hp hp' (fun k hk => h k hk.up)
  have h1 := OVal.dep (sub nm 1) vs x.Ae hp hp' (fun k hk => h k hk.up)
  show AV.agg [.int .i64 x.kind, .int .i64 x.pos, .int .i64 x.n, .str x.s, (ov (sub nm 0) vs x.kids).pur hp, (ov (sub nm 1) vs x.Ae).pur hp] = AV.agg [.int .i64 x.kind, .int .i64 x.pos, .int .i64 x.n, .str x.s, (ov (sub nm 0) vs x.kids).pur hp', (ov (sub nm 1) vs x.Ae).pur hp']
  rw [h0, h1]
 free nm vs x p h := by rcases List.mem_append.1 h with h | h <;> exact OVal.free _ _ _ p h
 J2 nm vs x y hx := by
  simp only [AV.cells, List.mem_cons, List.not_mem_nil, or_false] at hx
  rcases hx with rfl | rfl | rfl | rfl | rfl | rfl <;> rfl
 ok _ _ _ := rfl
 agg _ _ _ := rfl
 len _ _ _ := rfl
theorem AeH (nm : Nat) (vs : Nat → Nat) (x : Node) : ov nm vs x = .agg [.int .i64 x.kind, .int .i64 x.pos, .int .i64 x.n, .str x.s, .row (sub nm 0) (vs (sub nm 0)) x.kids.length, .row (sub nm 1) (vs (sub nm 1)) x.Ae.length] := eqq rfl
theorem AeN (nm : Nat) (vs : Nat → Nat) (x : Node) : oh nm vs x = oh (sub nm 0) vs x.kids ++ oh (sub nm 1) vs x.Ae := rfl

instance : Mk Node := ⟨fun k x => ⟨k, k + 1, k + 1 + 1, R4 (k + 1 + 1 + 1), mkL (k + 1 + 1 + 1 + 1) x.kids, mkL (k + 1 + 1 + 1 + 1 + (GW x.kids : Int)) x.Ae⟩, fun x => 4 + GW x.kids + GW x.Ae⟩
theorem AdQ (x : Node) : cnt x = 4 + GW x.kids + GW x.Ae := rfl
instance : MkB Node := ⟨fun x => by
 have hbx : Ac.bulk x = Ac.bulk x.kind + Ac.bulk x.pos + Ac.bulk x.n + Ac.bulk x.s + Ac.bulk x.kids + Ac.bulk x.Ae + 1 := rfl
 have hbx_0 : Ac.bulk x.kind = 1 := rfl
 have hbx_1 : Ac.bulk x.pos = 1 := rfl
 have hbx_2 : Ac.bulk x.n = 1 := rfl
 have hbx_3 : Ac.bulk x.s = x.s.size + 1 := rfl
 have hbx_4 := D8 x.kids
 have hbx_5 := D8 x.Ae
 rw [AdQ]
 omega⟩

instance : OVal Program where
 ty := 31
 ov nm vs x := .agg [ov (sub nm 0) vs x.types, ov (sub nm 1) vs x.nodes]
 oh nm vs x := oh (sub nm 0) vs x.types ++ oh (sub nm 1) vs x.nodes
 on nm x := on (sub nm 0) x.types ++ on (sub nm 1) x.nodes
 names nm vs x := by simp only [List.map_append, OVal.names]
 inn nm x k h := by rcases List.mem_append.1 h with h | h <;> exact (OVal.inn _ _ _ h).up
 self nm vs x := Lg (OVal.self _ _ _) (OVal.self _ _ _) fun p hp q hq e => by
  have h1 := OVal.inh hp
  have h2 := OVal.inh hq
  rw [e] at h2
  have := h1.sib h2
  omega
 FN nm vs vs' x h := by
  obtain ⟨a0, b0⟩ := OVal.FN (sub nm 0) vs vs' x.types (fun k hk => h k hk.up)
  obtain ⟨a1, b1⟩ := OVal.FN (sub nm 1) vs vs' x.nodes (fun k hk => h k hk.up)
  simp only [a0, b0, a1, b1, and_self]
 HW nm vs x hp h := by
  rw [AF] at h
  have h0 := OVal.HW (sub nm 0) vs x.types hp h.1
  have h1 := OVal.HW (sub nm 1) vs x.nodes (BZ (on (sub nm 0) x.types) hp) (I5 (fun p hp => Gm (Dn (by omega) (OVal.inh hp))) h.2)
  rw [← D5] at h1
  have d0 : (ov (sub nm 0) vs x.types).pur (BZ (on (sub nm 0) x.types ++ on (sub nm 1) x.nodes) hp) = (ov (sub nm 0) vs x.types).pur (BZ (on (sub nm 0) x.types) hp) := OVal.dep _ _ _ _ _ fun k hk => by
   rw [D5, BJ (Gm (Dn (by omega) hk))]
  rw [← d0] at h0
  show AV.agg [(ov (sub nm 0) vs x.types).pur (BZ (on (sub nm 0) x.types ++ on (sub nm 1) x.nodes) hp), (ov (sub nm 1) vs x.nodes).pur (BZ (on (sub nm 0) x.types ++ on (sub nm 1) x.nodes) hp)] = av x
  rw [h0, h1]; rfl
 dep nm vs x hp hp' h := by
  have h0 := OVal.dep (sub nm 0) vs x.types hp hp' (fun k hk => h k hk.up)
  have h1 := OVal.dep (sub nm 1) vs x.nodes hp hp' (fun k hk => h k hk.up)
  show AV.agg [(ov (sub nm 0) vs x.types).pur hp, (ov (sub nm 1) vs x.nodes).pur hp] = AV.agg [(ov (sub nm 0) vs x.types).pur hp', (ov (sub nm 1) vs x.nodes).pur hp']
  rw [h0, h1]
 free nm vs x p h := by rcases List.mem_append.1 h with h | h <;> exact OVal.free _ _ _ p h
 J2 nm vs x y hx := by
  simp only [AV.cells, List.mem_cons, List.not_mem_nil, or_false] at hx
  rcases hx with rfl | rfl <;> rfl
 ok _ _ _ := rfl
 agg _ _ _ := rfl
 len _ _ _ := rfl
theorem BV (nm : Nat) (vs : Nat → Nat) (x : Program) : ov nm vs x = .agg [.row (sub nm 0) (vs (sub nm 0)) x.types.length, .row (sub nm 1) (vs (sub nm 1)) x.nodes.length] := eqq rfl
theorem Dl (nm : Nat) (vs : Nat → Nat) (x : Program) : oh nm vs x = oh (sub nm 0) vs x.types ++ oh (sub nm 1) vs x.nodes := rfl

instance : Mk Program := ⟨fun k x => ⟨mkL (k) x.types, mkL (k + (GW x.types : Int)) x.nodes⟩, fun x => GW x.types + GW x.nodes⟩
theorem WE (x : Program) : cnt x = GW x.types + GW x.nodes := rfl
instance : MkB Program := ⟨fun x => by
 have hbx : Ac.bulk x = Ac.bulk x.types + Ac.bulk x.nodes + 1 := rfl
 have hbx_0 := D8 x.types
 have hbx_1 := D8 x.nodes
 rw [WE]
 omega⟩

end Go.Proofs.YtppjinmlfcokaaaGreat
