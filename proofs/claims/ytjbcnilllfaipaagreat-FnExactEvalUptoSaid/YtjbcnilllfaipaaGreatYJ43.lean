/-
 MARKS OF PLAIN VALUES: what a mark writes, and how many it takes. Conditions: none.
-/
import Derived.Test.YtjbcnilllfaipaaGreatYJ29
import Derived.Test.YtjbcnilllfaipaaGreatYJ06
import Derived.Test.YtjbcnilllfaipaaGreatYJ42
import Derived.Test.YtjbcnilllfaipaaGreatYJ41
set_option linter.unusedVariables false
set_option linter.unusedSimpArgs false
set_option maxRecDepth 100000
namespace Go.Proofs.YtjbcnilllfaipaaGreat
open Go.RowKit Go.Proofs.YtjbcnilllfaipaaGreat.Av Go.Proofs.YtjbcnilllfaipaaGreat.Ml
open Go.Proofs.YtjbcnilllfaipaaGreat.Av.AVal (av)
open OVal (ov oh on)

def DQ (k : Int) : ByteArray := ⟨#[109]⟩ ++ HX k.toNat
class Mk (α : Type) where
 mkv : Int → α → α
 cnt : α → Nat
open Mk (mkv cnt)
instance : Mk Int := ⟨fun k _ => k, fun _ => 1⟩
instance : Mk ByteArray := ⟨fun k _ => DQ k, fun _ => 1⟩
section
variable {α : Type} [Mk α]
def mkL : Int → List α → List α
 | _, [] => []
 | k, x :: r => mkv k x :: mkL (k + (cnt x : Int)) r
def BG : List α → Nat
 | [] => 0
 | x :: r => cnt x + BG r
theorem FV : BG ([] : List α) = 0 := rfl
instance : Mk (List α) := ⟨mkL, BG⟩
theorem Ff (l : List α) : cnt l = BG l := rfl
theorem DH (k : Int) : ∀ (l : List α), (mkL k l).length = l.length
 | [] => rfl
 | x :: r => by simp [mkL, DH (k + (cnt x : Int)) r]
theorem Pu : ∀ (a b : List α), BG (a ++ b) = BG a + BG b
 | [], b => by simp [BG]
 | x :: r, b => by simp [BG, Pu r b]; omega
theorem X5 : ∀ (k : Int) (a b : List α), mkL k (a ++ b) = mkL k a ++ mkL (k + (BG a : Int)) b
 | k, [], b => by simp [mkL, BG]
 | k, x :: r, b => by
  simp only [List.cons_append, mkL, X5 _ r b, BG]
  rw [show k + (cnt x : Int) + (BG r : Int) = k + ((cnt x + BG r : Nat) : Int) by omega]
theorem EP {l : List α} {i : Nat} (h : i < l.length) : BG (l.take (i + 1)) = BG (l.take i) + cnt l[i] := by
 rw [List.take_succ_eq_append_getElem h, Pu]; simp [BG]
theorem HP (l : List α) (i : Nat) : BG (l.take i) ≤ BG l := by
 have := Pu (l.take i) (l.drop i)
 rw [List.take_append_drop] at this; omega
theorem ER (l : List α) : BG (l.take l.length) = BG l := by rw [List.take_length]
def BD (k : Int) (l : List α) (i : Nat) : List α := mkL k (l.take i) ++ l.drop i
theorem Fy (k : Int) (l : List α) : BD k l 0 = l := by simp [BD, mkL]
theorem Fz (k : Int) (l : List α) : BD k l l.length = mkL k l := by simp [BD]
theorem Dg {k : Int} {l : List α} {i : Nat} (h : i ≤ l.length) : (BD k l i).length = l.length := by simp [BD, DH]; omega
theorem Gh {k : Int} {l : List α} {i : Nat} (h : i < l.length) (h' : i < (BD k l i).length) : (BD k l i)[i] = l[i] := by
 simp only [BD]
 rw [List.getElem_append_right (by rw [DH]; simp; omega)]
 have : i - (mkL k (l.take i)).length = 0 := by rw [DH]; simp; omega
 simp [this]
theorem Gg {k : Int} {l : List α} {i : Nat} (h : i < l.length) : (BD k l i).set i (mkv (k + (BG (l.take i) : Int)) l[i]) = BD k l (i + 1) := by
 have hk : (mkL k (l.take i)).length = i := by rw [DH]; simp; omega
 unfold BD
 rw [List.set_append_right _ _ (by omega), hk, Nat.sub_self, List.drop_eq_getElem_cons h, List.set_cons_zero, List.take_succ_eq_append_getElem h, X5]
 simp [mkL]
theorem X4 : ∀ (k : Int) (l : List α) (i : Nat) (h : i < l.length) (h' : i < (mkL k l).length), (mkL k l)[i] = mkv (k + (BG (l.take i) : Int)) l[i]
 | k, x :: r, 0, h, h' => by simp [mkL, BG]
 | k, x :: r, i + 1, h, h' => by
  simp only [mkL, List.getElem_cons_succ, List.take_succ_cons, BG]
  rw [X4 (k + (cnt x : Int)) r i (by simpa using h) (by simpa [mkL] using h')]
  rw [show k + (cnt x : Int) + (BG (r.take i) : Int) = k + ((cnt x + BG (r.take i) : Nat) : Int) by omega]
end
class MkB (α : Type) [Mk α] [Ad α] : Prop where
 le : ∀ x : α, cnt x ≤ Ad.bulk x
instance : MkB Int := ⟨fun _ => Nat.le_refl _⟩
instance : MkB ByteArray := ⟨fun s => by show 1 ≤ s.size + 1; omega⟩
theorem BT {α : Type} [Mk α] [Ad α] [MkB α] : ∀ l : List α, BG l + 1 ≤ Ad.bulk l
 | [] => by simp [BG, Ad.bulk]
 | x :: r => by
  have h1 := MkB.le x
  have h2 := BT r
  simp only [BG, Ad.bulk, List.map_cons, List.sum_cons] at h1 h2 ⊢
  omega
theorem WT {α : Type} [Ad α] (l : List α) {i : Nat} (h : i < l.length) : Ad.bulk l = Ad.bulk (l.take i) + Ad.bulk l[i] + Ad.bulk (l.drop (i + 1)) - 1 := by
 have e : l = l.take i ++ l[i] :: l.drop (i + 1) := by rw [← List.drop_eq_getElem_cons h, List.take_append_drop]
 have hs : ∀ m : List α, Ad.bulk m = (m.map Ad.bulk).sum + 1 := fun _ => rfl
 rw [hs, hs (l.take i), hs (l.drop (i + 1))]
 conv => lhs; rw [e]
 rw [List.map_append, List.sum_append, List.map_cons, List.sum_cons]
 omega
theorem Ei {α : Type} [Mk α] [Ad α] [MkB α] {l : List α} {i : Nat} (h : i < l.length) : BG (l.take i) + Ad.bulk l[i] + 1 ≤ Ad.bulk l := by
 have h1 := WT l h
 have h2 := BT (l.take i)
 have h3 := Ad.pos (l.drop (i + 1))
 omega
instance {α : Type} [Mk α] [Ad α] [MkB α] : MkB (List α) := ⟨fun l => by have := BT l; rw [Ff]; omega⟩
def Fg {α : Type} [AVal α] [OVal α] [Mk α] (nm : Nat) (vs : Nat → Nat) (k : Int) (y : α) (r : AV) (hp' : Hp) : Prop := r = .int .i64 (k + (cnt y : Int)) ∧ hp' = oh nm vs (mkv k y)

/-! lending -/
section
variable {α : Type} [AVal α] [OVal α]
theorem XI {x : AV} (h : x.ok = true) (hp : Hp) (hf : ∀ f cs, x ≠ .fn f cs) : x.Bv hp = x.pur hp := by
 cases x <;> first | rfl | exact absurd rfl (hf _ _)
theorem XM (nm : Nat) (vs : Nat → Nat) (y : α) : ∀ f cs, ov nm vs y ≠ .fn f cs := fun f cs h => by
 have := OVal.JH nm vs y (.fn f cs) (by rw [h]; simp [AV.cells])
 simp [AV.HN] at this
theorem OS {nm : Nat} {vs : Nat → Nat} {y : α} {H : Hp} (h : Bg H (oh nm vs y)) : (ov nm vs y).Bv (Cy (on nm y) H) = av y := by
 rw [XI (OVal.ok _ _ _) _ (XM nm vs y), OVal.Hk nm vs y H h]
theorem Abb {x : AV} {nm : Nat} {vs : Nat → Nat} {y : α} {H : Hp} (e : x = ov nm vs y) (h : Bg H (oh nm vs y)) : x.Bv (Cy (on nm y) H) = av y := by rw [e]; exact OS h
theorem AdF {β : Type} [AVal β] [OVal β] {n0 n1 : Nat} {v0 : Nat → Nat} {y0 : α} {y1 : β} {H : Hp} (h : Bg H (oh n0 v0 y0)) (hn : ∀ k, InT n0 k → ¬ InT n1 k) : (ov n0 v0 y0).Bv (Cy (on n0 y0 ++ on n1 y1) H) = av y0 := by
 rw [XI (OVal.ok _ _ _) _ (XM n0 v0 y0), FT, OVal.dep n0 v0 y0 _ (Cy (on n0 y0) H) (fun k hk => Dn (JX (hn k hk))), OVal.Hk n0 v0 y0 H h]
theorem AdE {β : Type} [AVal β] [OVal β] {n0 n1 : Nat} {v1 : Nat → Nat} {y0 : β} {y1 : α} {H : Hp} (h : Bg H (oh n1 v1 y1)) (hn : ∀ k, InT n1 k → ¬ InT n0 k) : (ov n1 v1 y1).Bv (Cy (on n0 y0 ++ on n1 y1) H) = av y1 := by
 rw [FT]
 exact OS (O4 (fun p hp => JX (hn _ (OVal.inh hp))) h)
theorem AaO (nm : Nat) (vs : Nat → Nat) (y : α) : (ov nm vs y).Mg = true := by
 have h := OVal.JH nm vs y
 have h2 := OVal.ok nm vs y
 generalize ov nm vs y = x at *
 cases x <;> first | (simp only [AV.Mg, List.all_eq_true]; exact h) | (have h3 := h _ (List.Mem.head _); exact h3) | (simp [AV.ok, AV.one, AV.isAgg] at h2; done)
theorem Acm (nm : Nat) (vs : Nat → Nat) (y : α) : (ov nm vs y).free = true := by
 have h := AaO nm vs y
 have h2 := OVal.ok nm vs y
 generalize ov nm vs y = x at *
 cases x <;> first | exact h | (simp [AV.ok, AV.one, AV.isAgg] at h2; done)
theorem AaY (nm : Nat) (vs : Nat → Nat) (y : α) : Gi (oh nm vs y) := fun k bx h => OVal.free nm vs y (k, bx) (Sy h)
end
theorem VH {P : Go.Program} {f : FuncId} {args args' : List AV} {hp : Hp} {k : AV → Hp → Prop} {Post : AV → Hp → Prop} (ks : List Nat) (h : Ay P f args' [] Post) {kp : DC k} (he : args.map (AV.Bv (Cy ks hp)) = args') (hk : ∀ r hp', Post r hp' → (r.free = true ∧ Gi hp') ∧ ∀ H, H = hp' ++ hp → k r H) : Bd2 (fun k => I9 P f args hp k) k kp :=
 W4 ks h he fun r hp' hpst => ⟨(hk r hp' hpst).1, (hk r hp' hpst).2 _ rfl⟩
theorem BX {f : AV → AV} {x y : AV} {xs ys : List AV} (h1 : f x = y) (h2 : xs.map f = ys) : (x :: xs).map f = y :: ys := by rw [List.map_cons, h1, h2]
section
variable {α β : Type} [AVal α] [OVal α] [AVal β] [OVal β]
theorem Im {nm nm' : Nat} {vs vs' : Nat → Nat} {y : α} {z : β} {hp H : Hp} (hH : H = oh nm vs y ++ hp) (hn : ∀ k, InT nm' k → ¬ InT nm k) (h : Bg hp (oh nm' vs' z)) : Bg H (oh nm' vs' z) :=
 A3.2 fun p hp' => by rw [hH, Dh (Ii (hn _ (OVal.inh hp')))]; exact A3.1 h p hp'
theorem NU {nm : Nat} {vs : Nat → Nat} {y : α} {hp H : Hp} (hH : H = oh nm vs y ++ hp) (hn : 1000 ≤ nm) : ∀ q, q < 1000 → Aw H q = Aw hp q := fun q hq => by
 rw [hH, Dh (Ii fun h => by have := h.le; omega)]
theorem OD {nm : Nat} {vs : Nat → Nat} {y y' : α} {hp H : Hp} (hH : H = oh nm vs y' ++ BN (on nm y) hp) (hn : 1000 ≤ nm) : ∀ q, q < 1000 → Aw H q = Aw hp q := fun q hq => by
 rw [hH, Kz (fun h => by have := h.le; omega)]
end
theorem Ck {a b k : Nat} (ha : a < 10000) (hb : b < 10000) (hab : a ≠ b) (h : InT a k) : ¬ InT b k := fun h' => hab (h.apart ha hb h')

structure TS where
 m : Nat
 s : ByteArray
theorem AdO : bs [] = ByteArray.empty := rfl
theorem Uf (k : Nat) (h1 : 1 ≤ k) (h2 : k ≤ 4611686018427387904) : Ap Tryz.prog 61 [.int .i64 (k : Int)] (.str (DQ k)) := by
 refine IA.F rfl (by simp; exact BL _) (Ac.str _) ?_
 have h0 : ¬ (k : Int) ≤ 0 := by omega
 simp +contextual -dsimp only [↓SD, SU, simprocAttr, IA, h0]
 refine Al (X := TS) (fun x => ⟨[(0, .int .i64 (x.m : Int)), (3, .str x.s)], []⟩) (fun x => x.m ≤ k ∧ (0 < x.m → HX k = HX x.m ++ x.s) ∧ (x.m = 0 → HX k = x.s)) (fun x => x.m) ⟨k, bs []⟩ ⟨Nat.le_refl _, fun _ => by rw [AdO, ByteArray.append_empty], fun h => by dsimp only at h; omega⟩ (by simp +contextual -dsimp only [↓SD, SU, simprocAttr]) trivial ?_
 rintro ⟨m, s⟩ ⟨hm, hs1, hs0⟩
 dsimp only at hm hs1 hs0
 have hdl := KC k (by omega)
 by_cases hp : 0 < m
 ·have hp' : 0 < (m : Int) := by omega
  have e := hs1 hp
  have hsz : s.size ≤ 64 := by rw [e, ByteArray.size_append] at hdl; omega
  have h48 : (48 : Int) + ((m : Int).tmod 10) = ((48 + m % 10 : Nat) : Int) := by rw [Int.tmod_eq_emod_of_nonneg (by omega)]; rfl
  have h10 : (m : Int).tdiv 10 = ((m / 10 : Nat) : Int) := by rw [Int.tdiv_eq_ediv_of_nonneg (by omega)]; rfl
  have hin : (0 : Int) ≤ (m : Int).tmod 10 ∧ (m : Int).tmod 10 < 10 := by rw [Int.tmod_eq_emod_of_nonneg (by omega)]; omega
  simp +contextual -dsimp only [↓SD, SU, simprocAttr, hp', h48, h10]
  refine ⟨by omega, by omega, by omega, ?_⟩
  refine SR _ _ [UInt8.ofNat (48 + m % 10)] rfl (by rw [List.map_cons, List.map_nil, NY _ (by omega)]) ?_
  have h5 : (⟨[UInt8.ofNat (48 + m % 10)].toArray⟩ : ByteArray).size = 1 := rfl
  simp +contextual -dsimp only [↓SD, SU, simprocAttr, hp', h48, h10, h5]
  refine ⟨by unfold maxLen; omega, by omega, Af.le ⟨⟨m / 10, ⟨[UInt8.ofNat (48 + m % 10)].toArray⟩ ++ s⟩, ⟨⟨by dsimp only; omega, fun h => ?_, fun h => ?_⟩, by dsimp only; omega⟩, rfl⟩ (by simp +contextual -dsimp only [↓SD, SU, simprocAttr]) trivial⟩
  ·dsimp only at h ⊢
   rw [e, Pt (by omega), ByteArray.append_assoc]
  ·dsimp only at h ⊢
   rw [e, Ps (by omega)]
   have : m % 10 = m := by omega
   rw [this]
 ·have h0' : ¬ 0 < (m : Int) := by omega
  have e := hs0 (by omega)
  have hsz : s.size ≤ 64 := by rw [e] at hdl; omega
  have hb : bs [109] = (⟨#[109]⟩ : ByteArray) := rfl
  have h5 : (⟨#[109]⟩ : ByteArray).size = 1 := rfl
  have hr : DQ (k : Int) = ⟨#[109]⟩ ++ s := by unfold DQ; rw [Int.toNat_natCast, e]
  rw [hr]
  simp +contextual -dsimp only [↓SD, SU, simprocAttr, h0', hb, h5]
  unfold maxLen; omega
theorem Ex (k : Int) (h1 : 1 ≤ k) (h2 : k ≤ 4611686018427387904) : Ap Tryz.prog 61 [.int .i64 k] (.str (DQ k)) := by
 have := Uf k.toNat (by omega) (by omega)
 rwa [show ((k.toNat : Nat) : Int) = k by omega] at this
end Go.Proofs.YtjbcnilllfaipaaGreat
set_option linter.unusedVariables false
set_option linter.unusedSimpArgs false
set_option maxRecDepth 100000
namespace Go.Proofs.YtjbcnilllfaipaaGreat
open Go.RowKit Go.Proofs.YtjbcnilllfaipaaGreat.Av Go.Proofs.YtjbcnilllfaipaaGreat.Ml
open Go.Proofs.YtjbcnilllfaipaaGreat.Av.AVal (av)
open OVal (ov oh on)
open Mk (mkv cnt)

set_option maxHeartbeats 1000000 in
theorem NH (nm : Nat) (vs : Nat → Nat) (l : List ByteArray) (k : Int) (h0 : 1 ≤ k) (h1 : k + (Ad.bulk l : Int) ≤ 4611686018427387904) : Ay Tryz.prog 32 [ov nm vs l, .int .i64 k] (oh nm vs l) (Fg nm vs k l) := by
 refine Gw.H rfl ?_
 simp +contextual -dsimp only [↓SD, SU, simprocAttr, Gw, AO]
 refine Al (X := Nat) (fun i => ⟨[(0, .row nm (vs nm) l.length), (1, .int .i64 (k + (BG (l.take i) : Int))), (5, .int .i64 i)], oh nm vs (BD k l i)⟩) (fun i => i ≤ l.length) (fun i => l.length - i) 0 (Nat.zero_le _) (by simp +contextual -dsimp only [↓SD, SU, simprocAttr, List.take_zero, FV, Int.natCast_zero, Int.add_zero]) (by rw [Fy]; exact OVal.self _ _ _) ?_
 rintro i hi
 by_cases hlt : i < l.length
 ·have hLi : i < (BD k l i).length := by rw [Dg hi]; exact hlt
  have hLl : (BD k l i).length = l.length := Dg hi
  have hgi := Gh hlt hLi
  have hsf := Gg (k := k) hlt
  have hroom := Ei hlt
  have htake := EP hlt
  have hle := HP l (i + 1)
  have e := Ht nm vs (BD k l i) hLi .top
  rw [hgi] at e
  have hr := DW nm vs (BD k l i)
  rw [show ∀ x : ByteArray, ov (sub nm i) vs x = av x from fun _ => rfl, B7] at e
  have hlen : (ovL nm vs 0 (BD k l i)).length = l.length := by rw [EI, hLl]
  obtain ⟨x, hx⟩ : ∃ x, x = l[i] := ⟨_, rfl⟩
  obtain ⟨K, hK⟩ : ∃ K, K = k + (BG (l.take i) : Int) := ⟨_, rfl⟩
  try rw [← hx] at e
  try rw [← hx] at hroom
  try rw [← hx] at htake
  rw [← hx] at hsf
  rw [← hK] at hsf
  rw [FZ] at hr
  obtain ⟨E, hE⟩ : ∃ E, E = ovL nm vs 0 (BD k l i) := ⟨_, rfl⟩
  have hcount : cnt x = 1 := rfl
  rw [hcount] at htake
  have hbx : Ad.bulk x = x.size + 1 := rfl
  have hbl := Ao l
  have hKn : k + (BG (l.take (i + 1)) : Int) = K + 1 := by rw [htake]; omega
  have hKb : K + (Ad.bulk x : Int) ≤ 4611686018427387904 := by omega
  have hK1 : 1 ≤ K := by omega
  have hmk : ov (sub nm i) vs (mkv K x) = AV.str (DQ K) := by rfl
  have hus : ovL nm vs 0 ((BD k l i).set i (mkv K x)) = E.set i (AV.str (DQ K)) := by rw [Hs, hmk, ← hE]
  rw [← hE] at e hlen hr
  rw [← hK]
  have gs : ∀ a, (E.set i a).getD i .top = a := fun a => by rw [List.getD_eq_getElem?_getD, List.getElem?_set_self (by rw [hlen]; exact hlt)]; rfl
  have ls : ∀ a, (E.set i a).length = l.length := fun a => by rw [List.length_set, hlen]
  obtain ⟨H, hH⟩ : ∃ H, H = oh nm vs (BD k l i) := ⟨_, rfl⟩
  rw [← hH] at hr
  have hq : ∀ q, ¬ InT (sub nm i) q → q ≠ nm → Aw H q = Aw (oh nm vs (BD k l i)) q := fun q _ _ => by rw [hH]
  rw [show (AVal.n ByteArray) = 1 from rfl] at hr
  rw [← hH]
  clear hH
  simp +contextual -dsimp only [↓SD, SU, simprocAttr, hlt, hlen, e, gs, ls, List.set_set, AO, false_and, hr]
  repeat (refine And.intro (by omega) ?_)
  refine Ab _ (Ex (K) (by omega) (by omega)) ?_
  simp +contextual -dsimp only [↓SD, SU, simprocAttr, hlt, hlen, e, gs, ls, List.set_set, AO, false_and, hr]
  repeat (refine And.intro (by omega) ?_)
  refine Af.le ⟨i + 1, ⟨hlt, (by first | omega | (simp only; omega))⟩, rfl⟩ (by simp +contextual -dsimp only [↓SD, SU, simprocAttr, Int.natCast_add, hKn]) ?_
  rw [← hsf]
  refine JY hLi ?_ ?_ ?_
  ·repeat (first | exact hq | refine DN ?_)
  ·rw [FZ, hus]; first | exact Cj | exact hr
  ·exact trivial
 ·obtain rfl : i = l.length := by omega
  rw [Fz, ER]
  have hr := DW nm vs (mkL k l)
  have hs := OVal.self nm vs (mkL k l)
  obtain ⟨H, hH⟩ : ∃ H, H = oh nm vs (mkL k l) := ⟨_, rfl⟩
  rw [← hH]
  simp +contextual -dsimp only [↓SD, SU, simprocAttr, Nat.lt_irrefl, Aa]
  refine Af.post H ?_
  simp +contextual -dsimp only [↓SD, SU, simprocAttr]
  exact ⟨by rw [hH]; exact hs, rfl, by rw [hH]; rfl⟩

set_option maxHeartbeats 1000000 in
theorem NM (l : List ByteArray) (k : Int) (h0 : 1 ≤ k) (h1 : k + (Ad.bulk l : Int) ≤ 4611686018427387904) : Ap Tryz.prog 33 [.sl ((mkL k l).map av), .int .i64 k] (.int .i64 (k + (BG l : Int))) := by
 refine Gz.F rfl (by simp; exact ⟨Aq _, BL _⟩) (BL _) ?_
 simp +contextual -dsimp only [↓SD, SU, simprocAttr, Gz, Aa, DH]
 refine Al (X := Nat) (fun i => ⟨[(0, .sl ((mkL k l).map av)), (1, .int .i64 (k + (BG (l.take i) : Int))), (5, .int .i64 i)], []⟩) (fun i => i ≤ l.length) (fun i => l.length - i) 0 (Nat.zero_le _) (by simp +contextual -dsimp only [↓SD, SU, simprocAttr, List.take_zero, FV, Int.natCast_zero, Int.add_zero]) trivial ?_
 rintro i hi
 by_cases hlt : i < l.length
 ·have hroom := Ei hlt
  have htake := EP hlt
  have e := getD_map av (mkL k l) i .top (by rw [DH]; exact hlt)
  rw [X4 k l i hlt] at e
  rw [show (mkv (k + (BG (l.take i) : Int)) l[i] : ByteArray) = DQ (k + (BG (l.take i) : Int)) from rfl, B7] at e
  obtain ⟨x, hx⟩ : ∃ x, x = l[i] := ⟨_, rfl⟩
  obtain ⟨K, hK⟩ : ∃ K, K = k + (BG (l.take i) : Int) := ⟨_, rfl⟩
  rw [← hx] at hroom htake
  rw [← hK] at e ⊢
  have hcount : cnt x = 1 := rfl
  rw [hcount] at htake
  have hbx : Ad.bulk x = x.size + 1 := rfl
  have hbl := Ao l
  have hKn : k + (BG (l.take (i + 1)) : Int) = K + 1 := by rw [htake]; omega
  have hKb : K + (Ad.bulk x : Int) ≤ 4611686018427387904 := by omega
  have hK1 : 1 ≤ K := by omega
  simp +contextual -dsimp only [↓SD, SU, simprocAttr, hlt, Aa, DH, beq_self_eq_true, e]
  repeat (refine And.intro (by omega) ?_)
  refine Ab _ (Ex (K) (by omega) (by omega)) ?_
  simp +contextual -dsimp only [↓SD, SU, simprocAttr, hlt, Aa, DH, beq_self_eq_true, e]
  repeat (refine And.intro (by omega) ?_)
  exact Af.le ⟨i + 1, ⟨hlt, (by first | omega | (simp only; omega))⟩, rfl⟩ (by simp +contextual -dsimp only [↓SD, SU, simprocAttr, Int.natCast_add, hKn]) trivial
 ·obtain rfl : i = l.length := by omega
  rw [ER]
  simp +contextual -dsimp only [↓SD, SU, simprocAttr, Nat.lt_irrefl, Aa, DH]

end Go.Proofs.YtjbcnilllfaipaaGreat
