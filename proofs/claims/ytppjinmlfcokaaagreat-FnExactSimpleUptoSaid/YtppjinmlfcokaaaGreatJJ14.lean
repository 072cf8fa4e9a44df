/-
  THE ABSTRACT TEXTS OF FUNCTIONS (MText), printed by irgen.py, and that they are the functions' own. Conditions: none.
-/
import Derived.Test.YtppjinmlfcokaaaGreatProg
import Derived.Test.YtppjinmlfcokaaaGreatJAvDraw
import Derived.Test.YtppjinmlfcokaaaGreatJJ07
import Derived.Test.YtppjinmlfcokaaaGreatJAvRen
import Derived.Test.YtppjinmlfcokaaaGreatJJ11
set_option linter.unusedVariables false
set_option maxRecDepth 100000
namespace Go.Proofs.YtppjinmlfcokaaaGreat
open Go.Proofs.YtppjinmlfcokaaaGreat.Av

theorem Q7 : Tryz.prog.follows .mixedOrders = true := by kernel_rfl

def Jf : Ir Tryz.prog 69 [] [] 1 := ⟨_, _, Tryz.func69, Q7, by kernel_rfl, Ah [] Tryz.progTables (by conv => lhs; cbv) (by kernel_rfl)⟩
end Go.Proofs.YtppjinmlfcokaaaGreat
set_option linter.unusedVariables false
set_option linter.unusedSimpArgs false
namespace Go.Proofs.YtppjinmlfcokaaaGreat
open Go.RowKit Go.Proofs.YtppjinmlfcokaaaGreat.Av Go.Proofs.YtppjinmlfcokaaaGreat.Ml
open Go.Proofs.YtppjinmlfcokaaaGreat.Av.AVal (av)

def dig (k : Nat) : List UInt8 := if h : k < 10 then [UInt8.ofNat (48 + k)] else dig (k / 10) ++ [UInt8.ofNat (48 + k % 10)]
termination_by k
decreasing_by exact Nat.div_lt_self (by omega) (by decide)
def Rb (k : Nat) : ByteArray := ⟨(dig k).toArray⟩
theorem Sy {k : Nat} (h : k < 10) : dig k = [UInt8.ofNat (48 + k)] := by rw [dig, dif_pos h]
theorem Sz {k : Nat} (h : ¬ k < 10) : dig k = dig (k / 10) ++ [UInt8.ofNat (48 + k % 10)] := by rw [dig, dif_neg h]

theorem Aae : ∀ (n k : Nat), 1 ≤ n → k < 10 ^ n → (dig k).length ≤ n
 | 0, _, h, _ => absurd h (by decide)
 | n + 1, k, _, hk => by
  by_cases h : k < 10
  ·rw [Sy h]; simp
  ·rw [Sz h]
   have h1 : 1 ≤ n := by
    rcases Nat.eq_zero_or_pos n with rfl | h1
    ·simp at hk; omega
    ·exact h1
   have := Aae n (k / 10) h1 (by rw [Nat.pow_succ] at hk; omega)
   simp; exact this

theorem Ael (k : Nat) (hk : k ≤ 9223372036854775808) : (Rb k).size ≤ 64 := by
 have := Aae 20 k (by decide) (by omega)
 show (List.toArray _).size ≤ 64
 simp; omega
theorem Yn {k : Nat} (h : k < 10) : Rb k = ⟨[UInt8.ofNat (48 + k)].toArray⟩ := by unfold Rb; rw [Sy h]
theorem Yo {k : Nat} (h : ¬ k < 10) : Rb k = Rb (k / 10) ++ ⟨[UInt8.ofNat (48 + k % 10)].toArray⟩ := by
 unfold Rb; rw [Sz h]; first | (rw [ByteArray.mk_append_mk]; done) | (rw [ByteArray.mk_append_mk]; simp)
theorem Aeq (m : Nat) (h : m < 256) : AV.int .u8 ((UInt8.ofNat m).toNat : Int) = .int .u8 (m : Int) := by
 rw [UInt8.toNat_ofNat']; congr 1; omega

end Go.Proofs.YtppjinmlfcokaaaGreat
set_option linter.unusedVariables false
set_option linter.unusedSimpArgs false
set_option maxRecDepth 100000
namespace Go.Proofs.YtppjinmlfcokaaaGreat
open Go.RowKit Go.Proofs.YtppjinmlfcokaaaGreat.Av Go.Proofs.YtppjinmlfcokaaaGreat.Ml
open Go.Proofs.YtppjinmlfcokaaaGreat.Av.AVal (av)
open OVal (ov oh on)

def Ec (k : Int) : ByteArray := ⟨#[109]⟩ ++ Rb k.toNat
class Mk (α : Type) where
 mkv : Int → α → α
 cnt : α → Nat
open Mk (mkv cnt)
instance : Mk Int := ⟨fun k _ => k, fun _ => 1⟩
instance : Mk ByteArray := ⟨fun k _ => Ec k, fun _ => 1⟩
section
variable {α : Type} [Mk α]
def mkL : Int → List α → List α
 | _, [] => []
 | k, x :: r => mkv k x :: mkL (k + (cnt x : Int)) r
def A0 : List α → Nat
 | [] => 0
 | x :: r => cnt x + A0 r
theorem DI : A0 ([] : List α) = 0 := rfl
instance : Mk (List α) := ⟨mkL, A0⟩
theorem F6 (l : List α) : cnt l = A0 l := rfl
theorem A6 (k : Int) : ∀ (l : List α), (mkL k l).length = l.length
 | [] => rfl
 | x :: r => by simp [mkL, A6 (k + (cnt x : Int)) r]
theorem Qw : ∀ (a b : List α), A0 (a ++ b) = A0 a + A0 b
 | [], b => by simp [A0]
 | x :: r, b => by simp [A0, Qw r b]; omega
theorem ZD : ∀ (k : Int) (a b : List α), mkL k (a ++ b) = mkL k a ++ mkL (k + (A0 a : Int)) b
 | k, [], b => by simp [mkL, A0]
 | k, x :: r, b => by
  simp only [List.cons_append, mkL, ZD _ r b, A0]
  rw [show k + (cnt x : Int) + (A0 r : Int) = k + ((cnt x + A0 r : Nat) : Int) by omega]
theorem Df {l : List α} {i : Nat} (h : i < l.length) : A0 (l.take (i + 1)) = A0 (l.take i) + cnt l[i] := by
 rw [List.take_succ_eq_append_getElem h, Qw]; simp [A0]
theorem JR (l : List α) (i : Nat) : A0 (l.take i) ≤ A0 l := by
 have := Qw (l.take i) (l.drop i)
 rw [List.take_append_drop] at this; omega
theorem Dg (l : List α) : A0 (l.take l.length) = A0 l := by rw [List.take_length]
def BL (k : Int) (l : List α) (i : Nat) : List α := mkL k (l.take i) ++ l.drop i
theorem Gm (k : Int) (l : List α) : BL k l 0 = l := by simp [BL, mkL]
theorem Gn (k : Int) (l : List α) : BL k l l.length = mkL k l := by simp [BL]
theorem DC {k : Int} {l : List α} {i : Nat} (h : i ≤ l.length) : (BL k l i).length = l.length := by simp [BL, A6]; omega
theorem HB {k : Int} {l : List α} {i : Nat} (h : i < l.length) (h' : i < (BL k l i).length) : (BL k l i)[i] = l[i] := by
 simp only [BL]
 rw [List.getElem_append_right (by rw [A6]; simp; omega)]
 have : i - (mkL k (l.take i)).length = 0 := by rw [A6]; simp; omega
 simp [this]
theorem HA {k : Int} {l : List α} {i : Nat} (h : i < l.length) : (BL k l i).set i (mkv (k + (A0 (l.take i) : Int)) l[i]) = BL k l (i + 1) := by
 have hk : (mkL k (l.take i)).length = i := by rw [A6]; simp; omega
 unfold BL
 rw [List.set_append_right _ _ (by omega), hk, Nat.sub_self, List.drop_eq_getElem_cons h, List.set_cons_zero, List.take_succ_eq_append_getElem h, ZD]
 simp [mkL]
theorem H6 : ∀ (k : Int) (l : List α) (i : Nat) (h : i < l.length) (h' : i < (mkL k l).length), (mkL k l)[i] = mkv (k + (A0 (l.take i) : Int)) l[i]
 | k, x :: r, 0, h, h' => by simp [mkL, A0]
 | k, x :: r, i + 1, h, h' => by
  simp only [mkL, List.getElem_cons_succ, List.take_succ_cons, A0]
  rw [H6 (k + (cnt x : Int)) r i (by simpa using h) (by simpa [mkL] using h')]
  rw [show k + (cnt x : Int) + (A0 (r.take i) : Int) = k + ((cnt x + A0 (r.take i) : Nat) : Int) by omega]
end
class MkB (α : Type) [Mk α] [Ac α] : Prop where
 le : ∀ x : α, cnt x ≤ Ac.bulk x
instance : MkB Int := ⟨fun _ => Nat.le_refl _⟩
instance : MkB ByteArray := ⟨fun s => by show 1 ≤ s.size + 1; omega⟩
theorem BA {α : Type} [Mk α] [Ac α] [MkB α] : ∀ l : List α, A0 l + 1 ≤ Ac.bulk l
 | [] => by simp [A0, Ac.bulk]
 | x :: r => by
  have h1 := MkB.le x
  have h2 := BA r
  simp only [A0, Ac.bulk, List.map_cons, List.sum_cons] at h1 h2 ⊢
  omega
theorem Yv {α : Type} [Ac α] (l : List α) {i : Nat} (h : i < l.length) : Ac.bulk l = Ac.bulk (l.take i) + Ac.bulk l[i] + Ac.bulk (l.drop (i + 1)) - 1 := by
 have e : l = l.take i ++ l[i] :: l.drop (i + 1) := by rw [← List.drop_eq_getElem_cons h, List.take_append_drop]
 have hs : ∀ m : List α, Ac.bulk m = (m.map Ac.bulk).sum + 1 := fun _ => rfl
 rw [hs, hs (l.take i), hs (l.drop (i + 1))]
 conv => lhs; rw [e]
 rw [List.map_append, List.sum_append, List.map_cons, List.sum_cons]
 omega
theorem Cp {α : Type} [Mk α] [Ac α] [MkB α] {l : List α} {i : Nat} (h : i < l.length) : A0 (l.take i) + Ac.bulk l[i] + 1 ≤ Ac.bulk l := by
 have h1 := Yv l h
 have h2 := BA (l.take i)
 have h3 := Ac.pos (l.drop (i + 1))
 omega
instance {α : Type} [Mk α] [Ac α] [MkB α] : MkB (List α) := ⟨fun l => by have := BA l; rw [F6]; omega⟩
def GS {α : Type} [AVal α] [OVal α] [Mk α] (nm : Nat) (vs : Nat → Nat) (k : Int) (y : α) (r : AV) (hp' : Hp) : Prop := r = .int .i64 (k + (cnt y : Int)) ∧ hp' = oh nm vs (mkv k y)

/-! lending -/
section
variable {α : Type} [AVal α] [OVal α]
theorem Zg {x : AV} (h : x.ok = true) (hp : Hp) (hf : ∀ f cs, x ≠ .fn f cs) : x.Cf hp = x.pur hp := by
 cases x <;> first | rfl | exact absurd rfl (hf _ _)
theorem Zl (nm : Nat) (vs : Nat → Nat) (y : α) : ∀ f cs, ov nm vs y ≠ .fn f cs := fun f cs h => by
 have := OVal.Kq nm vs y (.fn f cs) (by rw [h]; simp [AV.cells])
 simp [AV.GO] at this
theorem MT {nm : Nat} {vs : Nat → Nat} {y : α} {H : Hp} (h : Ax H (oh nm vs y)) : (ov nm vs y).Cf (B3 (on nm y) H) = av y := by
 rw [Zg (OVal.ok _ _ _) _ (Zl nm vs y), OVal.HE nm vs y H h]
theorem EZ {x : AV} {nm : Nat} {vs : Nat → Nat} {y : α} {H : Hp} (e : x = ov nm vs y) (h : Ax H (oh nm vs y)) : x.Cf (B3 (on nm y) H) = av y := by rw [e]; exact MT h
theorem Afc {β : Type} [AVal β] [OVal β] {n0 n1 : Nat} {v0 : Nat → Nat} {y0 : α} {y1 : β} {H : Hp} (h : Ax H (oh n0 v0 y0)) (hn : ∀ k, InT n0 k → ¬ InT n1 k) : (ov n0 v0 y0).Cf (B3 (on n0 y0 ++ on n1 y1) H) = av y0 := by
 rw [Zg (OVal.ok _ _ _) _ (Zl n0 v0 y0), DU, OVal.dep n0 v0 y0 _ (B3 (on n0 y0) H) (fun k hk => BH (Gl (hn k hk))), OVal.HE n0 v0 y0 H h]
theorem Afb {β : Type} [AVal β] [OVal β] {n0 n1 : Nat} {v1 : Nat → Nat} {y0 : β} {y1 : α} {H : Hp} (h : Ax H (oh n1 v1 y1)) (hn : ∀ k, InT n1 k → ¬ InT n0 k) : (ov n1 v1 y1).Cf (B3 (on n0 y0 ++ on n1 y1) H) = av y1 := by
 rw [DU]
 exact MT (Jr (fun p hp => Gl (hn _ (OVal.inh hp))) h)
theorem Acr (nm : Nat) (vs : Nat → Nat) (y : α) : (ov nm vs y).Nk = true := by
 have h := OVal.Kq nm vs y
 have h2 := OVal.ok nm vs y
 generalize ov nm vs y = x at *
 cases x <;> first | (simp only [AV.Nk, List.all_eq_true]; exact h) | (have h3 := h _ (List.Mem.head _); exact h3) | (simp [AV.ok, AV.one, AV.isAgg] at h2; done)
theorem GA (nm : Nat) (vs : Nat → Nat) (y : α) : (ov nm vs y).free = true := by
 have h := Acr nm vs y
 have h2 := OVal.ok nm vs y
 generalize ov nm vs y = x at *
 cases x <;> first | exact h | (simp [AV.ok, AV.one, AV.isAgg] at h2; done)
theorem Fh (nm : Nat) (vs : Nat → Nat) (y : α) : GN (oh nm vs y) := fun k bx h => OVal.free nm vs y (k, bx) (Yg h)
end
theorem Dp {P : Go.Program} {f : FuncId} {args args' : List AV} {hp : Hp} {k : AV → Hp → Prop} {Post : AV → Hp → Prop} (ks : List Nat) (h : AU P f args' [] Post) {kp : DA k} (he : args.map (AV.Cf (B3 ks hp)) = args') (hk : ∀ r hp', Post r hp' → (r.free = true ∧ GN hp') ∧ ∀ H, H = hp' ++ hp → k r H) : Bd2 (fun k => Lx P f args hp k) k kp :=
 YE ks h he fun r hp' hpst => ⟨(hk r hp' hpst).1, (hk r hp' hpst).2 _ rfl⟩
theorem Aw {f : AV → AV} {x y : AV} {xs ys : List AV} (h1 : f x = y) (h2 : xs.map f = ys) : (x :: xs).map f = y :: ys := by rw [List.map_cons, h1, h2]
section
variable {α β : Type} [AVal α] [OVal α] [AVal β] [OVal β]
theorem P4 {nm nm' : Nat} {vs vs' : Nat → Nat} {y : α} {z : β} {hp H : Hp} (hH : H = oh nm vs y ++ hp) (hn : ∀ k, InT nm' k → ¬ InT nm k) (h : Ax hp (oh nm' vs' z)) : Ax H (oh nm' vs' z) :=
 Az.2 fun p hp' => by rw [hH, BR (FE (hn _ (OVal.inh hp')))]; exact Az.1 h p hp'
theorem Tv {nm : Nat} {vs : Nat → Nat} {y : α} {hp H : Hp} (hH : H = oh nm vs y ++ hp) (hn : 1000 ≤ nm) : ∀ q, q < 1000 → An H q = An hp q := fun q hq => by
 rw [hH, BR (FE fun h => by have := h.le; omega)]
theorem Vv {nm : Nat} {vs : Nat → Nat} {y y' : α} {hp H : Hp} (hH : H = oh nm vs y' ++ B1 (on nm y) hp) (hn : 1000 ≤ nm) : ∀ q, q < 1000 → An H q = An hp q := fun q hq => by
 rw [hH, Js (fun h => by have := h.le; omega)]
end
theorem GR {a b k : Nat} (ha : a < 10000) (hb : b < 10000) (hab : a ≠ b) (h : InT a k) : ¬ InT b k := fun h' => hab (h.apart ha hb h')

structure TS where
 m : Nat
 s : ByteArray
theorem Afi : bs [] = ByteArray.empty := rfl
theorem VJ (k : Nat) (h1 : 1 ≤ k) (h2 : k ≤ 4611686018427387904) : Ak Tryz.prog 69 [.int .i64 (k : Int)] (.str (Ec k)) := by
 refine Jf.F rfl (by simp; exact Bo _) (Ae.str _) ?_
 have h0 : ¬ (k : Int) ≤ 0 := by omega
 simp +contextual -dsimp only [↓SD, SU, simprocAttr, Jf, h0]
 refine Am (X := TS) (fun x => ⟨[(0, .int .i64 (x.m : Int)), (3, .str x.s)], []⟩) (fun x => x.m ≤ k ∧ (0 < x.m → Rb k = Rb x.m ++ x.s) ∧ (x.m = 0 → Rb k = x.s)) (fun x => x.m) ⟨k, bs []⟩ ⟨Nat.le_refl _, fun _ => by rw [Afi, ByteArray.append_empty], fun h => by dsimp only at h; omega⟩ (by simp +contextual -dsimp only [↓SD, SU, simprocAttr]) trivial ?_
 rintro ⟨m, s⟩ ⟨hm, hs1, hs0⟩
 dsimp only at hm hs1 hs0
 have hdl := Ael k (by omega)
 by_cases hp : 0 < m
 ·have hp' : 0 < (m : Int) := by omega
  have e := hs1 hp
  have hsz : s.size ≤ 64 := by rw [e, ByteArray.size_append] at hdl; omega
  have h48 : (48 : Int) + ((m : Int).tmod 10) = ((48 + m % 10 : Nat) : Int) := by rw [Int.tmod_eq_emod_of_nonneg (by omega)]; rfl
  have h10 : (m : Int).tdiv 10 = ((m / 10 : Nat) : Int) := by rw [Int.tdiv_eq_ediv_of_nonneg (by omega)]; rfl
  have hin : (0 : Int) ≤ (m : Int).tmod 10 ∧ (m : Int).tmod 10 < 10 := by rw [Int.tmod_eq_emod_of_nonneg (by omega)]; omega
  simp +contextual -dsimp only [↓SD, SU, simprocAttr, hp', h48, h10]
  refine ⟨by omega, by omega, by omega, ?_⟩
  refine Afk _ _ [UInt8.ofNat (48 + m % 10)] rfl (by rw [List.map_cons, List.map_nil, Aeq _ (by omega)]) ?_
  have h5 : (⟨[UInt8.ofNat (48 + m % 10)].toArray⟩ : ByteArray).size = 1 := rfl
  simp +contextual -dsimp only [↓SD, SU, simprocAttr, hp', h48, h10, h5]
  refine ⟨by unfold maxLen; omega, by omega, Af.le ⟨⟨m / 10, ⟨[UInt8.ofNat (48 + m % 10)].toArray⟩ ++ s⟩, ⟨⟨by dsimp only; omega, fun h => ?_, fun h => ?_⟩, by dsimp only; omega⟩, rfl⟩ (by simp +contextual -dsimp only [↓SD, SU, simprocAttr]) trivial⟩
  ·dsimp only at h ⊢
   rw [e, Yo (by omega), ByteArray.append_assoc]
  ·dsimp only at h ⊢
   rw [e, Yn (by omega)]
   have : m % 10 = m := by omega
   rw [this]
 ·have h0' : ¬ 0 < (m : Int) := by omega
  have e := hs0 (by omega)
  have hsz : s.size ≤ 64 := by rw [e] at hdl; omega
  have hb : bs [109] = (⟨#[109]⟩ : ByteArray) := rfl
  have h5 : (⟨#[109]⟩ : ByteArray).size = 1 := rfl
  have hr : Ec (k : Int) = ⟨#[109]⟩ ++ s := by unfold Ec; rw [Int.toNat_natCast, e]
  rw [hr]
  simp +contextual -dsimp only [↓SD, SU, simprocAttr, h0', hb, h5]
  unfold maxLen; omega
theorem Dm (k : Int) (h1 : 1 ≤ k) (h2 : k ≤ 4611686018427387904) : Ak Tryz.prog 69 [.int .i64 k] (.str (Ec k)) := by
 have := VJ k.toNat (by omega) (by omega)
 rwa [show ((k.toNat : Nat) : Int) = k by omega] at this
end Go.Proofs.YtppjinmlfcokaaaGreat
set_option linter.unusedVariables false
set_option linter.unusedSimpArgs false
set_option maxRecDepth 100000
namespace Go.Proofs.YtppjinmlfcokaaaGreat
open Go.RowKit Go.Proofs.YtppjinmlfcokaaaGreat.Av Go.Proofs.YtppjinmlfcokaaaGreat.Ml
open Go.Proofs.YtppjinmlfcokaaaGreat.Av.AVal (av)
open OVal (ov oh on)
open Mk (mkv cnt)

theorem Pg (nm : Nat) (l : List Int) (hx : Ac.bulk l ≤ 4294967296) : AU Tryz.prog 90 [.sl (l.map av)] [] (BW nm l) := by
 have hl := Ag l
 refine Jd.H rfl ?_
 simp +contextual -dsimp only [↓SD, SU, simprocAttr, Jd, Aa]
 refine ⟨by omega, fun v => ?_⟩
 refine Am (X := Nat × (Nat → Nat)) (fun x => ⟨[(0, .sl (l.map av)), (3, .row 7 v l.length), (4, .int .i64 x.1)], (7, ⟨v, false, 3, 1, FI l (AV.int .i64 0) x.1⟩) :: []⟩) (fun x => x.1 ≤ l.length) (fun x => l.length - x.1) (0, fun _ => 0) (Nat.zero_le _) (by simp +contextual -dsimp only [↓SD, SU, simprocAttr]) (by simp +contextual -dsimp only [↓SD, SU, simprocAttr, Ea]) ?_
 rintro ⟨k, vs⟩ hk
 dsimp only at hk ⊢
 by_cases hlt : k < l.length
 ·have e := getD_map av l k .top hlt
  have hbk : Ac.bulk l[k] ≤ 4294967296 := by have := AG (List.getElem_mem hlt); omega
  have e1 := Ct (AV.int .i64 0) hk
  have e2 := EV (AV.int .i64 0) hlt .top
  have e3 := EU (z := (AV.int .i64 0)) hlt rfl
  rw [A7] at e3
  simp +contextual -dsimp only [↓SD, SU, simprocAttr, Aa, hlt, e, A7, e1, e2, e3]
  refine ⟨by omega, Af.le ⟨(k + 1, vs), ⟨hlt, (by first | omega | (simp only; omega))⟩, rfl⟩ (by simp +contextual -dsimp only [↓SD, SU, simprocAttr, Int.natCast_add]) (by simp +contextual -dsimp only [↓SD, SU, simprocAttr, e2, e3])⟩
 ·obtain rfl : k = l.length := by omega
  simp +contextual -dsimp only [↓SD, SU, simprocAttr, Aa, Nat.lt_irrefl, Eb]
  refine Af.ren 2 7 nm (v := v) (n := l.length) rfl AZ rfl fun v' => ?_
  refine Af.post (oh nm (fun _ => v') l) ?_
  rw [ML (fun _ _ _ => rfl) (fun _ _ _ => rfl)]
  simp +contextual -dsimp only [↓SD, SU, simprocAttr, AZ, FG, Nf]
  exact ⟨rfl, _, rfl, (ML (fun _ _ _ => rfl) (fun _ _ _ => rfl) nm (fun _ => v') l).symm⟩

set_option maxHeartbeats 1000000 in
theorem MR (nm : Nat) (vs : Nat → Nat) (l : List Int) (k : Int) (h0 : 1 ≤ k) (h1 : k + (Ac.bulk l : Int) ≤ 4611686018427387904) : AU Tryz.prog 71 [ov nm vs l, .int .i64 k] (oh nm vs l) (GS nm vs k l) := by
 refine Jh.H rfl ?_
 simp +contextual -dsimp only [↓SD, SU, simprocAttr, Jh, AJ]
 refine Am (X := Nat) (fun i => ⟨[(0, .row nm (vs nm) l.length), (1, .int .i64 (k + (A0 (l.take i) : Int))), (5, .int .i64 i)], oh nm vs (BL k l i)⟩) (fun i => i ≤ l.length) (fun i => l.length - i) 0 (Nat.zero_le _) (by simp +contextual -dsimp only [↓SD, SU, simprocAttr, List.take_zero, DI, Int.natCast_zero, Int.add_zero]) (by rw [Gm]; exact OVal.self _ _ _) ?_
 rintro i hi
 by_cases hlt : i < l.length
 ·have hLi : i < (BL k l i).length := by rw [DC hi]; exact hlt
  have hLl : (BL k l i).length = l.length := DC hi
  have hgi := HB hlt hLi
  have hsf := HA (k := k) hlt
  have hroom := Cp hlt
  have htake := Df hlt
  have hle := JR l (i + 1)
  have e := Ep nm vs (BL k l i) hLi .top
  rw [hgi] at e
  have hr := Er nm vs (BL k l i)
  rw [show ∀ x : Int, ov (sub nm i) vs x = av x from fun _ => rfl, A7] at e
  have hlen : (ovL nm vs 0 (BL k l i)).length = l.length := by rw [B2, hLl]
  obtain ⟨x, hx⟩ : ∃ x, x = l[i] := ⟨_, rfl⟩
  obtain ⟨K, hK⟩ : ∃ K, K = k + (A0 (l.take i) : Int) := ⟨_, rfl⟩
  try rw [← hx] at e
  try rw [← hx] at hroom
  try rw [← hx] at htake
  rw [← hx] at hsf
  rw [← hK] at hsf
  rw [Dv] at hr
  obtain ⟨E, hE⟩ : ∃ E, E = ovL nm vs 0 (BL k l i) := ⟨_, rfl⟩
  have hcount : cnt x = 1 := rfl
  rw [hcount] at htake
  have hbx : Ac.bulk x = 1 := rfl
  have hbl := Ag l
  have hKn : k + (A0 (l.take (i + 1)) : Int) = K + 1 := by rw [htake]; omega
  have hKb : K + (Ac.bulk x : Int) ≤ 4611686018427387904 := by omega
  have hK1 : 1 ≤ K := by omega
  have hmk : ov (sub nm i) vs (mkv K x) = AV.int .i64 K := by rfl
  have hus : ovL nm vs 0 ((BL k l i).set i (mkv K x)) = E.set i (AV.int .i64 K) := by rw [HZ, hmk, ← hE]
  rw [← hE] at e hlen hr
  rw [← hK]
  have gs : ∀ a, (E.set i a).getD i .top = a := fun a => by rw [List.getD_eq_getElem?_getD, List.getElem?_set_self (by rw [hlen]; exact hlt)]; rfl
  have ls : ∀ a, (E.set i a).length = l.length := fun a => by rw [List.length_set, hlen]
  obtain ⟨H, hH⟩ : ∃ H, H = oh nm vs (BL k l i) := ⟨_, rfl⟩
  rw [← hH] at hr
  have hq : ∀ q, ¬ InT (sub nm i) q → q ≠ nm → An H q = An (oh nm vs (BL k l i)) q := fun q _ _ => by rw [hH]
  rw [show (AVal.n Int) = 1 from rfl] at hr
  rw [← hH]
  clear hH
  simp +contextual -dsimp only [↓SD, SU, simprocAttr, hlt, hlen, e, gs, ls, List.set_set, AJ, hr]
  repeat (refine And.intro (by omega) ?_)
  refine Af.le ⟨i + 1, ⟨hlt, (by first | omega | (simp only; omega))⟩, rfl⟩ (by simp +contextual -dsimp only [↓SD, SU, simprocAttr, Int.natCast_add, hKn]) ?_
  rw [← hsf]
  refine L1 hLi ?_ ?_ ?_
  ·repeat (first | exact hq | refine DV ?_)
  ·rw [Dv, hus]; first | exact AZ | exact hr
  ·exact trivial
 ·obtain rfl : i = l.length := by omega
  rw [Gn, Dg]
  have hr := Er nm vs (mkL k l)
  have hs := OVal.self nm vs (mkL k l)
  obtain ⟨H, hH⟩ : ∃ H, H = oh nm vs (mkL k l) := ⟨_, rfl⟩
  rw [← hH]
  simp +contextual -dsimp only [↓SD, SU, simprocAttr, Nat.lt_irrefl, Aa]
  refine Af.post H ?_
  simp +contextual -dsimp only [↓SD, SU, simprocAttr]
  exact ⟨by rw [hH]; exact hs, rfl, by rw [hH]; rfl⟩

set_option maxHeartbeats 1000000 in
theorem Ni (l : List Int) (k : Int) (h0 : 1 ≤ k) (h1 : k + (Ac.bulk l : Int) ≤ 4611686018427387904) : Ak Tryz.prog 74 [.sl ((mkL k l).map av), .int .i64 k] (.int .i64 (k + (A0 l : Int))) := by
 refine Jk.F rfl (by simp; exact ⟨Ao _, Bo _⟩) (Bo _) ?_
 simp +contextual -dsimp only [↓SD, SU, simprocAttr, Jk, Aa, A6]
 refine Am (X := Nat) (fun i => ⟨[(0, .sl ((mkL k l).map av)), (1, .int .i64 (k + (A0 (l.take i) : Int))), (5, .int .i64 i)], []⟩) (fun i => i ≤ l.length) (fun i => l.length - i) 0 (Nat.zero_le _) (by simp +contextual -dsimp only [↓SD, SU, simprocAttr, List.take_zero, DI, Int.natCast_zero, Int.add_zero]) trivial ?_
 rintro i hi
 by_cases hlt : i < l.length
 ·have hroom := Cp hlt
  have htake := Df hlt
  have e := getD_map av (mkL k l) i .top (by rw [A6]; exact hlt)
  rw [H6 k l i hlt] at e
  rw [show (mkv (k + (A0 (l.take i) : Int)) l[i] : Int) = k + (A0 (l.take i) : Int) from rfl, A7] at e
  obtain ⟨x, hx⟩ : ∃ x, x = l[i] := ⟨_, rfl⟩
  obtain ⟨K, hK⟩ : ∃ K, K = k + (A0 (l.take i) : Int) := ⟨_, rfl⟩
  rw [← hx] at hroom htake
  rw [← hK] at e ⊢
  have hcount : cnt x = 1 := rfl
  rw [hcount] at htake
  have hbx : Ac.bulk x = 1 := rfl
  have hbl := Ag l
  have hKn : k + (A0 (l.take (i + 1)) : Int) = K + 1 := by rw [htake]; omega
  have hKb : K + (Ac.bulk x : Int) ≤ 4611686018427387904 := by omega
  have hK1 : 1 ≤ K := by omega
  simp +contextual -dsimp only [↓SD, SU, simprocAttr, hlt, Aa, A6, e]
  repeat (refine And.intro (by omega) ?_)
  exact Af.le ⟨i + 1, ⟨hlt, (by first | omega | (simp only; omega))⟩, rfl⟩ (by simp +contextual -dsimp only [↓SD, SU, simprocAttr, Int.natCast_add, hKn]) trivial
 ·obtain rfl : i = l.length := by omega
  rw [Dg]
  simp +contextual -dsimp only [↓SD, SU, simprocAttr, Nat.lt_irrefl, Aa, A6]

end Go.Proofs.YtppjinmlfcokaaaGreat
