/-
  MARKS OF PLAIN VALUES: what a mark writes, and how many it takes. Conditions: none.
-/
import Derived.Test.YtfkchfdbaikccaaAvRen
import Derived.Test.YtfkchfdbaikccaaAvRep
import Derived.Test.YtfkchfdbaikccaaNumP
import Derived.Test.YtfkchfdbaikccaaIrMText
set_option linter.unusedVariables false
set_option linter.unusedSimpArgs false
set_option maxRecDepth 100000
namespace Go.Proofs.Ytfkchfdbaikccaa
open Go.RowKit Go.Proofs.Ytfkchfdbaikccaa.Av Go.Proofs.Ytfkchfdbaikccaa.Ml
open Go.Proofs.Ytfkchfdbaikccaa.Av.AVal (av)
open OVal (ov oh on)

def markS (k : Int) : ByteArray := ⟨#[109]⟩ ++ digS k.toNat
/-- what a mark from k on makes of a value, and how many numbers it takes -/
class Mk (α : Type) where
  mkv : Int → α → α
  cnt : α → Nat
open Mk (mkv cnt)
instance : Mk Int := ⟨fun k _ => k, fun _ => 1⟩
instance : Mk ByteArray := ⟨fun k _ => markS k, fun _ => 1⟩
section
variable {α : Type} [Mk α]
def mkL : Int → List α → List α
  | _, [] => []
  | k, x :: r => mkv k x :: mkL (k + (cnt x : Int)) r
def cntL : List α → Nat
  | [] => 0
  | x :: r => cnt x + cntL r
theorem cntL_nil : cntL ([] : List α) = 0 := rfl
instance : Mk (List α) := ⟨mkL, cntL⟩
theorem mk_list (k : Int) (l : List α) : mkv k l = mkL k l := rfl
theorem cnt_list (l : List α) : cnt l = cntL l := rfl
theorem mkL_len (k : Int) : ∀ (l : List α), (mkL k l).length = l.length
  | [] => rfl
  | x :: r => by simp [mkL, mkL_len (k + (cnt x : Int)) r]
theorem cntL_app : ∀ (a b : List α), cntL (a ++ b) = cntL a + cntL b
  | [], b => by simp [cntL]
  | x :: r, b => by simp [cntL, cntL_app r b]; omega
theorem mkL_app : ∀ (k : Int) (a b : List α), mkL k (a ++ b) = mkL k a ++ mkL (k + (cntL a : Int)) b
  | k, [], b => by simp [mkL, cntL]
  | k, x :: r, b => by
    simp only [List.cons_append, mkL, mkL_app _ r b, cntL]
    rw [show k + (cnt x : Int) + (cntL r : Int) = k + ((cnt x + cntL r : Nat) : Int) by omega]
theorem cntL_take {l : List α} {i : Nat} (h : i < l.length) : cntL (l.take (i + 1)) = cntL (l.take i) + cnt l[i] := by
  rw [List.take_succ_eq_append_getElem h, cntL_app]; simp [cntL]
theorem cntL_le (l : List α) (i : Nat) : cntL (l.take i) ≤ cntL l := by
  have := cntL_app (l.take i) (l.drop i)
  rw [List.take_append_drop] at this; omega
theorem cntL_room {l : List α} {i : Nat} (h : i < l.length) : cntL (l.take i) + cnt l[i] ≤ cntL l := by
  rw [← cntL_take h]; exact cntL_le _ _
theorem cntL_full (l : List α) : cntL (l.take l.length) = cntL l := by rw [List.take_length]
/-- the first i elements are marked -/
def mkTo (k : Int) (l : List α) (i : Nat) : List α := mkL k (l.take i) ++ l.drop i
theorem mkTo_zero (k : Int) (l : List α) : mkTo k l 0 = l := by simp [mkTo, mkL]
theorem mkTo_full (k : Int) (l : List α) : mkTo k l l.length = mkL k l := by simp [mkTo]
theorem mkTo_len {k : Int} {l : List α} {i : Nat} (h : i ≤ l.length) : (mkTo k l i).length = l.length := by simp [mkTo, mkL_len]; omega
theorem mkTo_get {k : Int} {l : List α} {i : Nat} (h : i < l.length) (h' : i < (mkTo k l i).length) : (mkTo k l i)[i] = l[i] := by
  simp only [mkTo]
  rw [List.getElem_append_right (by rw [mkL_len]; simp; omega)]
  have : i - (mkL k (l.take i)).length = 0 := by rw [mkL_len]; simp; omega
  simp [this]
theorem mkTo_set {k : Int} {l : List α} {i : Nat} (h : i < l.length) : (mkTo k l i).set i (mkv (k + (cntL (l.take i) : Int)) l[i]) = mkTo k l (i + 1) := by
  have hk : (mkL k (l.take i)).length = i := by rw [mkL_len]; simp; omega
  unfold mkTo
  rw [List.set_append_right _ _ (by omega), hk, Nat.sub_self, List.drop_eq_getElem_cons h, List.set_cons_zero, List.take_succ_eq_append_getElem h, mkL_app]
  simp [mkL]
theorem mkL_get : ∀ (k : Int) (l : List α) (i : Nat) (h : i < l.length) (h' : i < (mkL k l).length), (mkL k l)[i] = mkv (k + (cntL (l.take i) : Int)) l[i]
  | k, x :: r, 0, h, h' => by simp [mkL, cntL]
  | k, x :: r, i + 1, h, h' => by
    simp only [mkL, List.getElem_cons_succ, List.take_succ_cons, cntL]
    rw [mkL_get (k + (cnt x : Int)) r i (by simpa using h) (by simpa [mkL] using h')]
    rw [show k + (cnt x : Int) + (cntL (r.take i) : Int) = k + ((cnt x + cntL (r.take i) : Nat) : Int) by omega]
end
/-- a mark takes no more numbers than the value holds things -/
class MkB (α : Type) [Mk α] [Bulk α] : Prop where
  le : ∀ x : α, cnt x ≤ Bulk.bulk x
instance : MkB Int := ⟨fun _ => Nat.le_refl _⟩
instance : MkB ByteArray := ⟨fun s => by show 1 ≤ s.size + 1; omega⟩
theorem cntL_bulk {α : Type} [Mk α] [Bulk α] [MkB α] : ∀ l : List α, cntL l + 1 ≤ Bulk.bulk l
  | [] => by simp [cntL, Bulk.bulk]
  | x :: r => by
    have h1 := MkB.le x
    have h2 := cntL_bulk r
    simp only [cntL, Bulk.bulk, List.map_cons, List.sum_cons] at h1 h2 ⊢
    omega
theorem bulk_split {α : Type} [Bulk α] (l : List α) {i : Nat} (h : i < l.length) : Bulk.bulk l = Bulk.bulk (l.take i) + Bulk.bulk l[i] + Bulk.bulk (l.drop (i + 1)) - 1 := by
  have e : l = l.take i ++ l[i] :: l.drop (i + 1) := by rw [← List.drop_eq_getElem_cons h, List.take_append_drop]
  have hs : ∀ m : List α, Bulk.bulk m = (m.map Bulk.bulk).sum + 1 := fun _ => rfl
  rw [hs, hs (l.take i), hs (l.drop (i + 1))]
  conv => lhs; rw [e]
  rw [List.map_append, List.sum_append, List.map_cons, List.sum_cons]
  omega
theorem cntL_roomB {α : Type} [Mk α] [Bulk α] [MkB α] {l : List α} {i : Nat} (h : i < l.length) : cntL (l.take i) + Bulk.bulk l[i] + 1 ≤ Bulk.bulk l := by
  have h1 := bulk_split l h
  have h2 := cntL_bulk (l.take i)
  have h3 := Bulk.pos (l.drop (i + 1))
  omega
instance {α : Type} [Mk α] [Bulk α] [MkB α] : MkB (List α) := ⟨fun l => by have := cntL_bulk l; rw [cnt_list]; omega⟩
/-- a mark's contract -/
def MarkPost {α : Type} [AVal α] [OVal α] [Mk α] (nm : Nat) (vs : Nat → Nat) (k : Int) (y : α) (r : AV) (hp' : Hp) : Prop := r = .int .i64 (k + (cnt y : Int)) ∧ hp' = oh nm vs (mkv k y)

/-! lending -/
section
variable {α : Type} [AVal α] [OVal α]
theorem purA_as {x : AV} (h : x.ok = true) (hp : Hp) (hf : ∀ f cs, x ≠ .fn f cs) : x.purA hp = x.pur hp := by
  cases x <;> first | rfl | exact absurd rfl (hf _ _)
theorem ov_nofn (nm : Nat) (vs : Nat → Nat) (y : α) : ∀ f cs, ov nm vs y ≠ .fn f cs := fun f cs h => by
  have := OVal.cfree nm vs y (.fn f cs) (by rw [h]; simp [AV.cells])
  simp [AV.free1] at this
theorem lend1 {nm : Nat} {vs : Nat → Nat} {y : α} {H : Hp} (h : hpLe H (oh nm vs y)) : (ov nm vs y).purA (frzL (on nm y) H) = av y := by
  rw [purA_as (OVal.ok _ _ _) _ (ov_nofn nm vs y), OVal.lend nm vs y H h]
theorem lend1e {x : AV} {nm : Nat} {vs : Nat → Nat} {y : α} {H : Hp} (e : x = ov nm vs y) (h : hpLe H (oh nm vs y)) : x.purA (frzL (on nm y) H) = av y := by rw [e]; exact lend1 h
theorem lend2a {β : Type} [AVal β] [OVal β] {n0 n1 : Nat} {v0 : Nat → Nat} {y0 : α} {y1 : β} {H : Hp} (h : hpLe H (oh n0 v0 y0)) (hn : ∀ k, InT n0 k → ¬ InT n1 k) : (ov n0 v0 y0).purA (frzL (on n0 y0 ++ on n1 y1) H) = av y0 := by
  rw [purA_as (OVal.ok _ _ _) _ (ov_nofn n0 v0 y0), frzL_app, OVal.dep n0 v0 y0 _ (frzL (on n0 y0) H) (fun k hk => hget_frzL_out (on_out (hn k hk))), OVal.lend n0 v0 y0 H h]
theorem lend2b {β : Type} [AVal β] [OVal β] {n0 n1 : Nat} {v1 : Nat → Nat} {y0 : β} {y1 : α} {H : Hp} (h : hpLe H (oh n1 v1 y1)) (hn : ∀ k, InT n1 k → ¬ InT n0 k) : (ov n1 v1 y1).purA (frzL (on n0 y0 ++ on n1 y1) H) = av y1 := by
  rw [frzL_app]
  exact lend1 (hpLe_frz (fun p hp => on_out (hn _ (OVal.inh hp))) h)
theorem ov_free0 (nm : Nat) (vs : Nat → Nat) (y : α) : (ov nm vs y).free0 = true := by
  have h := OVal.cfree nm vs y
  have h2 := OVal.ok nm vs y
  generalize ov nm vs y = x at *
  cases x <;> first | (simp only [AV.free0, List.all_eq_true]; exact h) | (have h3 := h _ (List.Mem.head _); exact h3) | (simp [AV.ok, AV.one, AV.isAgg] at h2; done)
theorem ov_free (nm : Nat) (vs : Nat → Nat) (y : α) : (ov nm vs y).free = true := by
  have h := ov_free0 nm vs y
  have h2 := OVal.ok nm vs y
  generalize ov nm vs y = x at *
  cases x <;> first | exact h | (simp [AV.ok, AV.one, AV.isAgg] at h2; done)
theorem oh_hfree (nm : Nat) (vs : Nat → Nat) (y : α) : hfree (oh nm vs y) := fun k bx h => OVal.free nm vs y (k, bx) (hg_mem h)
end
theorem aCallHL_gen {P : Program} {f : FuncId} {args args' : List AV} {hp : Hp} {k : AV → Hp → Prop} {Post : AV → Hp → Prop} (ks : List Nat) (h : CallsH P f args' [] Post) {kp : Keep k} (he : args.map (AV.purA (frzL ks hp)) = args') (hk : ∀ r hp', Post r hp' → (r.free = true ∧ hfree hp') ∧ ∀ H, H = hp' ++ hp → k r H) : Bd2 (fun k => aCallHK P f args hp k) k kp :=
  aCallHL_of ks h he fun r hp' hpst => ⟨(hk r hp' hpst).1, (hk r hp' hpst).2 _ rfl⟩
theorem hfree_app {a b : Hp} (ha : hfree a) (hb : hfree b) : hfree (a ++ b) := fun k bx h => by
  rw [hget_app] at h
  split at h
  · rename_i e; cases h; exact ha k _ e
  · exact hb k bx h
theorem map_cons_eq {f : AV → AV} {x y : AV} {xs ys : List AV} (h1 : f x = y) (h2 : xs.map f = ys) : (x :: xs).map f = y :: ys := by rw [List.map_cons, h1, h2]
section
variable {α β : Type} [AVal α] [OVal α] [AVal β] [OVal β]
theorem keep_app {nm nm' : Nat} {vs vs' : Nat → Nat} {y : α} {z : β} {hp H : Hp} (hH : H = oh nm vs y ++ hp) (hn : ∀ k, InT nm' k → ¬ InT nm k) (h : hpLe hp (oh nm' vs' z)) : hpLe H (oh nm' vs' z) :=
  hpLe_iff.2 fun p hp' => by rw [hH, hg_app_r (oh_ne (hn _ (OVal.inh hp')))]; exact hpLe_iff.1 h p hp'
theorem old_app {nm : Nat} {vs : Nat → Nat} {y : α} {hp H : Hp} (hH : H = oh nm vs y ++ hp) (hn : 1000 ≤ nm) : ∀ q, q < 1000 → hget H q = hget hp q := fun q hq => by
  rw [hH, hg_app_r (oh_ne fun h => by have := h.le; omega)]
theorem old_part {nm : Nat} {vs : Nat → Nat} {y y' : α} {hp H : Hp} (hH : H = oh nm vs y' ++ hrest (on nm y) hp) (hn : 1000 ≤ nm) : ∀ q, q < 1000 → hget H q = hget hp q := fun q hq => by
  rw [hH, hget_part (fun h => by have := h.le; omega)]
end
theorem apart_names {a b k : Nat} (ha : a < 10000) (hb : b < 10000) (hab : a ≠ b) (h : InT a k) : ¬ InT b k := fun h' => hab (h.apart ha hb h')

structure TS where
  m : Nat
  s : ByteArray
theorem bs_nil : bs [] = ByteArray.empty := rfl
theorem markText_ok (k : Nat) (h1 : 1 ≤ k) (h2 : k ≤ 4611686018427387904) : CallsF Try.prog 106 [.int .i64 (k : Int)] (.str (markS k)) := by
  refine fun_laws_markText rfl (by simp; exact pint _) (AvPure.str _) ?_
  have h0 : ¬ (k : Int) ≤ 0 := by omega
  simp +contextual -dsimp (maxSteps := 2000000) only [↓SD, SU, SB, Nat.reduceAdd, Nat.reduceBEq, Nat.reduceEqDiff, Nat.reduceLeDiff, Nat.reduceLT, Nat.reduceSub, ↓reduceIte, forall_const, implies_true, ne_eq, reduceCtorEq, Int.reduceToNat, forall_eq, Int.reduceEq, Int.reduceLT, Int.reduceLE, Int.reduceNeg, Int.reduceAdd, Int.reduceSub, ir_laws_markText, rs_laws_markText, h0]
  refine aLoop_of (X := TS) (fun x => ⟨[(0, .int .i64 (x.m : Int)), (3, .str x.s)], []⟩) (fun x => x.m ≤ k ∧ (0 < x.m → digS k = digS x.m ++ x.s) ∧ (x.m = 0 → digS k = x.s)) (fun x => x.m) ⟨k, bs []⟩ ⟨Nat.le_refl _, fun _ => by rw [bs_nil, ByteArray.append_empty], fun h => by dsimp only at h; omega⟩ (by simp +contextual -dsimp (maxSteps := 2000000) only [↓SD, SU, SB, Nat.reduceAdd, Nat.reduceBEq, Nat.reduceEqDiff, Nat.reduceLeDiff, Nat.reduceLT, Nat.reduceSub, ↓reduceIte, forall_const, implies_true, ne_eq, reduceCtorEq, Int.reduceToNat, forall_eq]) trivial ?_
  rintro ⟨m, s⟩ ⟨hm, hs1, hs0⟩
  dsimp only at hm hs1 hs0
  have hdl := digS_le k (by omega)
  by_cases hp : 0 < m
  · have hp' : 0 < (m : Int) := by omega
    have e := hs1 hp
    have hsz : s.size ≤ 64 := by rw [e, ByteArray.size_append] at hdl; omega
    have h48 : (48 : Int) + ((m : Int).tmod 10) = ((48 + m % 10 : Nat) : Int) := by rw [Int.tmod_eq_emod_of_nonneg (by omega)]; rfl
    have h10 : (m : Int).tdiv 10 = ((m / 10 : Nat) : Int) := by rw [Int.tdiv_eq_ediv_of_nonneg (by omega)]; rfl
    have hin : (0 : Int) ≤ (m : Int).tmod 10 ∧ (m : Int).tmod 10 < 10 := by rw [Int.tmod_eq_emod_of_nonneg (by omega)]; omega
    simp +contextual -dsimp (maxSteps := 2000000) only [↓SD, SU, SB, Nat.reduceAdd, Nat.reduceBEq, Nat.reduceEqDiff, Nat.reduceLeDiff, Nat.reduceLT, Nat.reduceSub, ↓reduceIte, forall_const, implies_true, ne_eq, reduceCtorEq, Int.reduceToNat, forall_eq, Int.reduceEq, Int.reduceLT, Int.reduceLE, Int.reduceNeg, Int.reduceAdd, Int.reduceSub, hp', h48, h10]
    refine ⟨by omega, by omega, by omega, ?_⟩
    refine b2s_of _ _ [UInt8.ofNat (48 + m % 10)] rfl (by rw [List.map_cons, List.map_nil, av_byte _ (by omega)]) ?_
    have h5 : (⟨[UInt8.ofNat (48 + m % 10)].toArray⟩ : ByteArray).size = 1 := rfl
    simp +contextual -dsimp (maxSteps := 2000000) only [↓SD, SU, SB, Nat.reduceAdd, Nat.reduceBEq, Nat.reduceEqDiff, Nat.reduceLeDiff, Nat.reduceLT, Nat.reduceSub, ↓reduceIte, forall_const, implies_true, ne_eq, reduceCtorEq, Int.reduceToNat, forall_eq, Int.reduceEq, Int.reduceLT, Int.reduceLE, Int.reduceNeg, Int.reduceAdd, Int.reduceSub, hp', h48, h10, h5]
    refine ⟨by unfold maxLen; omega, by omega, Goes.le ⟨⟨m / 10, ⟨[UInt8.ofNat (48 + m % 10)].toArray⟩ ++ s⟩, ⟨⟨by dsimp only; omega, fun h => ?_, fun h => ?_⟩, by dsimp only; omega⟩, rfl⟩ (by simp +contextual -dsimp (maxSteps := 2000000) only [↓SD, SU, SB, Nat.reduceAdd, Nat.reduceBEq, Nat.reduceEqDiff, Nat.reduceLeDiff, Nat.reduceLT, Nat.reduceSub, ↓reduceIte, forall_const, implies_true, ne_eq, reduceCtorEq, Int.reduceToNat, forall_eq]) trivial⟩
    · dsimp only at h ⊢
      rw [e, digS_great (by omega), ByteArray.append_assoc]
    · dsimp only at h ⊢
      rw [e, digS_small (by omega)]
      have : m % 10 = m := by omega
      rw [this]
  · have h0' : ¬ 0 < (m : Int) := by omega
    have e := hs0 (by omega)
    have hsz : s.size ≤ 64 := by rw [e] at hdl; omega
    have hb : bs [109] = (⟨#[109]⟩ : ByteArray) := rfl
    have h5 : (⟨#[109]⟩ : ByteArray).size = 1 := rfl
    have hr : markS (k : Int) = ⟨#[109]⟩ ++ s := by unfold markS; rw [Int.toNat_natCast, e]
    rw [hr]
    simp +contextual -dsimp (maxSteps := 2000000) only [↓SD, SU, SB, Nat.reduceAdd, Nat.reduceBEq, Nat.reduceEqDiff, Nat.reduceLeDiff, Nat.reduceLT, Nat.reduceSub, ↓reduceIte, forall_const, implies_true, ne_eq, reduceCtorEq, Int.reduceToNat, forall_eq, Int.reduceEq, Int.reduceLT, Int.reduceLE, Int.reduceNeg, Int.reduceAdd, Int.reduceSub, h0', hb, h5]
    unfold maxLen; omega
/-- markText at an int -/
theorem markText_at (k : Int) (h1 : 1 ≤ k) (h2 : k ≤ 4611686018427387904) : CallsF Try.prog 106 [.int .i64 k] (.str (markS k)) := by
  have := markText_ok k.toNat (by omega) (by omega)
  rwa [show ((k.toNat : Nat) : Int) = k by omega] at this
theorem markS_size (k : Int) (h2 : k ≤ 4611686018427387904) : (markS k).size ≤ 65 := by
  have := digS_le k.toNat (by omega)
  unfold markS; rw [ByteArray.size_append]
  have : (⟨#[109]⟩ : ByteArray).size = 1 := rfl
  omega
end Go.Proofs.Ytfkchfdbaikccaa
